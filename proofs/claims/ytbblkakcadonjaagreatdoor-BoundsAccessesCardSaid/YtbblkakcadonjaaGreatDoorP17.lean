/- Programs, plainly. Types of expressions, plainly. Valid programs, plainly. Names and their kinds, as maps. -/
import Derived.Test.YtbblkakcadonjaaGreatDoorP14
import Derived.Test.YtbblkakcadonjaaGreatDoorV12a
set_option linter.unusedVariables false
set_option linter.unusedSimpArgs false
namespace Go.Proofs.YtbblkakcadonjaaGreatDoor
open Go.Abs Go.RowKit

abbrev Axis := ByteArray × Lin
def axP (a : Axis) : List PC := [pS a.1, pI a.2.1, pMonos a.2.2]
abbrev Param := ByteArray × Ty × List Lin
def parP (x : Param) : List PC := [pS x.1, pI x.2.1.1, pI x.2.1.2.1, pI x.2.1.2.2.1, pI x.2.1.2.2.2.1, pI x.2.1.2.2.2.2, pSl linP x.2.2]
structure Dfn where
 name : ByteArray
 ty : Ty
 dims : List Axis
 red : List Axis
 fold : Int
 body : Ex
def defP (d : Dfn) : List PC := [pS d.name, pI d.ty.1, pI d.ty.2.1, pI d.ty.2.2.1, pI d.ty.2.2.2.1, pI d.ty.2.2.2.2, pSl axP d.dims, pSl axP d.red, pI d.fold, pI d.body.op, pS d.body.name, pI d.body.val.1, pI d.body.val.2, pI d.body.ty.1, pI d.body.ty.2.1, pI d.body.ty.2.2.1, pI d.body.ty.2.2.2.1, pI d.body.ty.2.2.2.2, pI d.body.lin.1, pMonos d.body.lin.2, pSl ixP d.body.idx, .slice (d.body.args.map Ex.row)]
structure Prg where
 sizes : List ByteArray
 wher : List Con
 params : List Param
 defs : List Dfn
 outs : List ByteArray
abbrev pStrs (l : List ByteArray) : PC := pSl (fun s => [pS s]) l
abbrev aPrg (p : Prg) : AV := .agg [.pure (pStrs p.sizes), .pure (pSl cP p.wher), .pure (pSl parP p.params), .pure (pSl defP p.defs), .pure (pStrs p.outs)]
abbrev bPrg (p : Prg) : Box := .var [.pure (pStrs p.sizes), .pure (pSl cP p.wher), .pure (pSl parP p.params), .pure (pSl defP p.defs), .pure (pStrs p.outs)]
abbrev aDfn (d : Dfn) : AV := .agg [.pure (pS d.name), .pure (pI d.ty.1), .pure (pI d.ty.2.1), .pure (pI d.ty.2.2.1), .pure (pI d.ty.2.2.2.1), .pure (pI d.ty.2.2.2.2), .pure (pSl axP d.dims), .pure (pSl axP d.red), .pure (pI d.fold), .pure (pI d.body.op), .pure (pS d.body.name), .pure (pI d.body.val.1), .pure (pI d.body.val.2), .pure (pI d.body.ty.1), .pure (pI d.body.ty.2.1), .pure (pI d.body.ty.2.2.1), .pure (pI d.body.ty.2.2.2.1), .pure (pI d.body.ty.2.2.2.2), .pure (pI d.body.lin.1), .pure (pMonos d.body.lin.2), .pure (pSl ixP d.body.idx), .pure (.slice (d.body.args.map Ex.row))]
abbrev bDfn (d : Dfn) : Box := .var [.pure (pS d.name), .pure (pI d.ty.1), .pure (pI d.ty.2.1), .pure (pI d.ty.2.2.1), .pure (pI d.ty.2.2.2.1), .pure (pI d.ty.2.2.2.2), .pure (pSl axP d.dims), .pure (pSl axP d.red), .pure (pI d.fold), .pure (pI d.body.op), .pure (pS d.body.name), .pure (pI d.body.val.1), .pure (pI d.body.val.2), .pure (pI d.body.ty.1), .pure (pI d.body.ty.2.1), .pure (pI d.body.ty.2.2.1), .pure (pI d.body.ty.2.2.2.1), .pure (pI d.body.ty.2.2.2.2), .pure (pI d.body.lin.1), .pure (pMonos d.body.lin.2), .pure (pSl ixP d.body.idx), .pure (.slice (d.body.args.map Ex.row))]
abbrev aPar (x : Param) : AV := .agg [.pure (pS x.1), .pure (pI x.2.1.1), .pure (pI x.2.1.2.1), .pure (pI x.2.1.2.2.1), .pure (pI x.2.1.2.2.2.1), .pure (pI x.2.1.2.2.2.2), .pure (pSl linP x.2.2)]
abbrev bPar (x : Param) : Box := .var [.pure (pS x.1), .pure (pI x.2.1.1), .pure (pI x.2.1.2.1), .pure (pI x.2.1.2.2.1), .pure (pI x.2.1.2.2.2.1), .pure (pI x.2.1.2.2.2.2), .pure (pSl linP x.2.2)]
abbrev aLins (l : List Lin) : AV := .c (.pure (pSl linP l))
abbrev aTyp (t : Ty) : AV := .agg [.pure (pI t.1), .pure (pI t.2.1), .pure (pI t.2.2.1), .pure (pI t.2.2.2.1), .pure (pI t.2.2.2.2)]

def findS (p : Prg) (s : ByteArray) : Option (Ty × List Lin) :=
 match p.params.find? (fun x => decide (x.1 = s)) with
 | some x => some x.2
 |none => match p.defs.find? (fun d => decide (d.name = s)) with
  | some d => some (d.ty, d.dims.map (·.2))
  | none => none
def fewP (p : Prg) : Prop := (∀ x ∈ p.params, x.2.2.length ≤ 12 ∧ ∀ l ∈ x.2.2, l.2.length ≤ 20) ∧ ∀ d ∈ p.defs, d.dims.length ≤ 12 ∧ d.red.length ≤ 12 ∧ (∀ a ∈ d.dims, a.2.2.length ≤ 20) ∧ ∀ a ∈ d.red, a.2.2.length ≤ 20
def idxNames (d : Dfn) : List ByteArray := (d.dims ++ d.red).map (·.1)
def knownL (vars sizes : List ByteArray) (l : Lin) : Prop := ∀ m ∈ l.2, m.1 ∈ vars ∨ m.1 ∈ sizes
noncomputable instance (vars sizes : List ByteArray) (l : Lin) : Decidable (knownL vars sizes l) := Classical.propDecidable _
noncomputable def formsErr (p : Prg) (vars : List ByteArray) (l : List Lin) : Int := if ∀ x ∈ l, knownL vars p.sizes x then 0 else 9
def ty0 : Ty := (0, 0, 0, 0, 0)
noncomputable def ixErr (p : Prg) (vars : List ByteArray) (x : Ix) : Int :=
 if x.2.1 = ⟨⟨[]⟩⟩ then formsErr p vars [x.1]
 else match findS p x.2.1 with
  | none => 9
  | some (t, dims) => if t.1 ≠ 3 then 10 else if x.2.2.length ≠ dims.length then 11 else formsErr p vars x.2.2
noncomputable def readS (p : Prg) (vars : List ByteArray) (e : Ex) : Ty × Int :=
 match findS p e.name with
 | none => (ty0, 9)
 | some (t, dims) => if e.idx.length ≠ dims.length then (ty0, 11) else if fstE (e.idx.map (ixErr p vars)) ≠ 0 then (ty0, fstE (e.idx.map (ixErr p vars))) else (t, 0)
noncomputable def nodeTy (p : Prg) (vars : List ByteArray) (e : Ex) (l : List Ty) : Ty × Int :=
 if e.op = 1 ∨ e.op = 12 then (e.ty, 0)
 else if e.op = 2 then ((3, 0, 0, 0, 0), formsErr p vars [e.lin])
 else if e.op = 3 then readS p vars e
 else if e.op = 8 then (l.getD 0 ty0, 0)
 else if e.op = 11 then (l.getD 1 ty0, if l.getD 1 ty0 = l.getD 2 ty0 then 0 else 10)
 else if 16 ≤ e.op then (ty0, 0)
 else if 13 ≤ e.op then (ty0, if l.getD 0 ty0 = l.getD 1 ty0 then 0 else 10)
 else (l.getD 0 ty0, if l.getD 0 ty0 = l.getD 1 ty0 then 0 else 10)
mutual
noncomputable def exTy (p : Prg) (vars : List ByteArray) : Ex → Ty × Int
 |.mk op name val ty lin idx args => match exTys p vars args with
  | .inl err => (ty0, err)
  | .inr l => nodeTy p vars (.mk op name val ty lin idx args) l
noncomputable def exTys (p : Prg) (vars : List ByteArray) : List Ex → Int ⊕ List Ty
 | [] => .inr []
 |e :: r => if (exTy p vars e).2 ≠ 0 then .inl (exTy p vars e).2 else match exTys p vars r with
  | .inl err => .inl err
  | .inr l => .inr ((exTy p vars e).1 :: l)
end
theorem exTy_eq (p : Prg) (vars : List ByteArray) (e : Ex) : exTy p vars e = match exTys p vars e.args with
  | .inl err => (ty0, err)
  | .inr l => nodeTy p vars e l := by
 obtain ⟨op, name, val, ty, lin, idx, args⟩ := e
 rw [exTy]
 rfl
noncomputable def typeOf (p : Prg) (vars : List ByteArray) (e : Ex) : Ty × Int :=
 if exErr e ≠ 0 then (ty0, exErr e) else if isCond e.op then (ty0, 10) else if (exTy p vars e).2 ≠ 0 then (ty0, (exTy p vars e).2) else ((exTy p vars e).1, 0)
noncomputable def nameErr (taken : List ByteArray) (s : ByteArray) : Int := if ¬ idOk s then 7 else if s ∈ taken then 8 else 0
noncomputable def formErr (sizes : List ByteArray) (l : Lin) : Int := if ¬ linOk l.2 then 1 else if ¬ knownL [] sizes l then 9 else 0
noncomputable def parErr (sizes taken : List ByteArray) (x : Param) : Int :=
 if nameErr taken x.1 ≠ 0 then nameErr taken x.1 else if ¬ tyOk x.2.1 then 10 else if 6 < x.2.2.length then 11 else fstE (x.2.2.map (formErr sizes))
noncomputable def axErrs (sizes : List ByteArray) : List ByteArray → List Axis → Int
 | _, [] => 0
 | taken, a :: r => if nameErr taken a.1 ≠ 0 then nameErr taken a.1 else if formErr sizes a.2 ≠ 0 then formErr sizes a.2 else axErrs sizes (taken ++ [a.1]) r
noncomputable def foldErr (d : Dfn) : Int := if d.fold < 0 ∨ 5 < d.fold then 1 else if ((d.fold = 0 ∨ d.fold = 5) ↔ d.red.length = 0) ∧ ¬ (d.fold = 5 ∧ d.dims.length = 0) then 0 else 11
noncomputable def defErr (p : Prg) (k : Nat) (taken : List ByteArray) (d : Dfn) : Int :=
 if nameErr taken d.name ≠ 0 then nameErr taken d.name else if ¬ tyOk d.ty then 10 else if 6 < d.dims.length ∨ 6 < d.red.length then 11
 else if axErrs p.sizes p.sizes (d.dims ++ d.red) ≠ 0 then axErrs p.sizes p.sizes (d.dims ++ d.red) else if foldErr d ≠ 0 then foldErr d
 else if (typeOf { p with wher := [], defs := p.defs.take k, outs := [] } (idxNames d) d.body).2 ≠ 0 then (typeOf { p with wher := [], defs := p.defs.take k, outs := [] } (idxNames d) d.body).2
 else if (typeOf { p with wher := [], defs := p.defs.take k, outs := [] } (idxNames d) d.body).1 ≠ d.ty then 10 else 0

section
variable {p : Prg} {vars : List ByteArray}
theorem exTys_append : ∀ (l r : List Ex), exTys p vars (l ++ r) = match exTys p vars l with
  | .inl err => .inl err
  |.inr a => match exTys p vars r with
   | .inl err => .inl err
   | .inr b => .inr (a ++ b)
 |[], r => by
  simp only [List.nil_append, exTys]
  cases exTys p vars r <;> rfl
 |e :: l, r => by
  simp only [List.cons_append, exTys]
  by_cases h : (exTy p vars e).2 = 0
  ·rw [if_neg (not_not_intro h), if_neg (not_not_intro h), exTys_append l r]
   cases exTys p vars l with
   | inl x => rfl
   | inr a => cases exTys p vars r <;> rfl
  ·rw [if_pos h, if_pos h]
theorem exTys_step {l : List Ex} {k : Nat} {ts : List Ty} (h : k < l.length) (hk : exTys p vars (l.take k) = .inr ts) (h0 : (exTy p vars l[k]).2 = 0) : exTys p vars (l.take (k + 1)) = .inr (ts ++ [(exTy p vars l[k]).1]) := by
 rw [List.take_succ_eq_append_getElem h, exTys_append, hk]
 simp only [exTys]
 rw [if_neg (not_not_intro h0)]
theorem exTys_stop {l : List Ex} {k : Nat} {ts : List Ty} (h : k < l.length) (hk : exTys p vars (l.take k) = .inr ts) (h0 : (exTy p vars l[k]).2 ≠ 0) : exTys p vars l = .inl (exTy p vars l[k]).2 := by
 have e : exTys p vars (l.take k ++ (l[k] :: l.drop (k + 1))) = .inl (exTy p vars l[k]).2 := by
  rw [exTys_append, hk]
  simp only [exTys]
  rw [if_pos h0]
 rw [← List.drop_eq_getElem_cons h, List.take_append_drop] at e
 exact e
theorem exTys_len : ∀ {l : List Ex} {ts : List Ty}, exTys p vars l = .inr ts → ts.length = l.length
 | [], ts, h => by cases h; rfl
 |e :: l, ts, h => by
  simp only [exTys] at h
  split at h
  ·cases h
  ·split at h
   ·cases h
   ·rename_i l' hl
    cases h
    simp [exTys_len hl]
noncomputable def zE (op : Int) (r : Ty × Int) : Ty × Int := if r.2 ≠ 0 ∧ op ≠ 2 then (ty0, r.2) else r
noncomputable def exTyR (p : Prg) (vars : List ByteArray) (e : Ex) : Ty × Int := match exTys p vars e.args with
  | .inl err => (ty0, err)
  | .inr l => zE e.op (nodeTy p vars e l)
theorem exTyR_err (e : Ex) : (exTyR p vars e).2 = (exTy p vars e).2 := by
 rw [exTy_eq]
 unfold exTyR
 cases exTys p vars e.args with
 | inl x => rfl
 | inr l =>
  simp only [zE]
  split <;> rfl
theorem exTyR_ty {e : Ex} (h : (exTy p vars e).2 = 0) : (exTyR p vars e).1 = (exTy p vars e).1 := by
 rw [exTy_eq] at h ⊢
 unfold exTyR
 cases hx : exTys p vars e.args with
 | inl x => rfl
 | inr l =>
  rw [hx] at h
  simp only [zE] at h ⊢
  rw [if_neg (fun hh => hh.1 h)]
end
theorem ty_ext {a b : Ty} (h : a.1 = b.1 ∧ a.2.1 = b.2.1 ∧ a.2.2.1 = b.2.2.1 ∧ a.2.2.2.1 = b.2.2.2.1 ∧ a.2.2.2.2 = b.2.2.2.2) : a = b := by
 obtain ⟨a1, a2, a3, a4, a5⟩ := a
 obtain ⟨b1, b2, b3, b4, b5⟩ := b
 simp_all
def rnkAll (e : Ex) : Prop := ∀ a ∈ e.pre, (a.args.length : Int) = arity a.op ∧ 1 ≤ a.op ∧ a.op ≤ 18 ∧ a.idx.length ≤ 6 ∧ ∀ x ∈ a.idx, x.2.2.length ≤ 6
theorem fstE_zero : ∀ {l : List Int}, fstE l = 0 → ∀ x ∈ l, x = 0
 |y :: r, h, x, hx => by
  simp only [fstE] at h
  split at h
  ·exact absurd h ‹_›
  ·rcases List.mem_cons.1 hx with rfl | hx
   ·exact Classical.not_not.1 ‹_›
   ·exact fstE_zero h x hx
theorem exErr_rnk {e : Ex} (h : exErr e = 0) : rnkAll e := by
 unfold exErr at h
 split at h
 ·cases h
 ·split at h
  ·cases h
  ·intro a ha
   have := nodeErr_ok (fstE_zero h _ (List.mem_map_of_mem ha))
   exact ⟨this.2.2.1.1, this.1.1.1, this.1.1.2, this.2.2.1.2.1, this.2.2.1.2.2⟩
theorem rnkAll_arg {e a : Ex} (h : rnkAll e) (ha : a ∈ e.args) : rnkAll a := fun b hb => h b (by
 rw [Ex.pre_eq]
 refine List.mem_cons_of_mem _ ?_
 clear h
 generalize e.args = l at ha
 induction l with
 | nil => cases ha
 | cons x r ihr =>
  rw [Ex.pres]
  rcases List.mem_cons.1 ha with rfl | ha
  ·exact List.mem_append_left _ hb
  ·exact List.mem_append_right _ (ihr ha))
theorem rnkAll_self {e : Ex} (h : rnkAll e) : (e.args.length : Int) = arity e.op ∧ 1 ≤ e.op ∧ e.op ≤ 18 ∧ e.idx.length ≤ 6 ∧ ∀ x ∈ e.idx, x.2.2.length ≤ 6 := h e (by rw [Ex.pre_eq]; exact List.mem_cons_self)
theorem op_kinds {o : Int} (h1 : 1 ≤ o) (h2 : o ≤ 18) : ((o = 1 ∨ o = 2 ∨ o = 3) ∧ arity o = 0) ∨ ((o = 8 ∨ o = 12 ∨ o = 18) ∧ arity o = 1) ∨ (o = 11 ∧ arity o = 3) ∨ ((o = 13 ∨ o = 14 ∨ o = 15) ∧ arity o = 2) ∨ ((o = 16 ∨ o = 17) ∧ arity o = 2) ∨ ((4 ≤ o ∧ o ≤ 10 ∧ o ≠ 8) ∧ arity o = 2) := by
 unfold arity
 have : o = 1 ∨ o = 2 ∨ o = 3 ∨ o = 4 ∨ o = 5 ∨ o = 6 ∨ o = 7 ∨ o = 8 ∨ o = 9 ∨ o = 10 ∨ o = 11 ∨ o = 12 ∨ o = 13 ∨ o = 14 ∨ o = 15 ∨ o = 16 ∨ o = 17 ∨ o = 18 := by omega
 rcases this with rfl | rfl | rfl | rfl | rfl | rfl | rfl | rfl | rfl | rfl | rfl | rfl | rfl | rfl | rfl | rfl | rfl | rfl <;> simp
theorem len1 {l : List Ty} (h : l.length = 1) : ∃ a, l = [a] := by match l, h with | [a], _ => exact ⟨a, rfl⟩
theorem len2 {l : List Ty} (h : l.length = 2) : ∃ a b, l = [a, b] := by match l, h with | [a, b], _ => exact ⟨a, b, rfl⟩
theorem len3 {l : List Ty} (h : l.length = 3) : ∃ a b c, l = [a, b, c] := by match l, h with | [a, b, c], _ => exact ⟨a, b, c, rfl⟩

def posE : Int → List Int → Option (Int × Int)
 | _, [] => none
 | at', x :: r => if x ≠ 0 then some (at', x) else posE (at' + 1) r
theorem posE_none {l : List Int} : ∀ {a : Int}, (∀ x ∈ l, x = 0) → posE a l = none := by
 induction l with
 | nil => intro a _; rfl
 | cons x r ih =>
  intro a h
  rw [posE, if_neg (not_not_intro (h x List.mem_cons_self))]
  exact ih fun y hy => h y (List.mem_cons_of_mem _ hy)
theorem posE_at {l : List Int} : ∀ {a : Int} {k : Nat} (hk : k < l.length), (∀ j (h : j < k), l[j]'(by omega) = 0) → l[k] ≠ 0 → posE a l = some (a + k, l[k]) := by
 induction l with
 | nil => intro a k hk; simp at hk
 | cons x r ih =>
  intro a k hk h1 h2
  cases k with
  | zero =>
   rw [posE, if_pos (by simpa using h2)]
   simp
  | succ k =>
   rw [posE, if_neg (not_not_intro (show x = 0 from h1 0 (by omega)))]
   rw [ih (k := k) (by simpa using hk) (fun j hj => h1 (j + 1) (by omega)) (by simpa using h2)]
   simp
   omega
theorem range_get {n k : Nat} {f : Nat → Int} (h : k < ((List.range n).map f).length) : ((List.range n).map f)[k] = f k := by simp
theorem posE_range {n : Nat} {f : Nat → Int} {a : Int} (h : ∀ j, j < n → f j = 0) : posE a ((List.range n).map f) = none := posE_none fun x hx => by
 obtain ⟨j, hj, rfl⟩ := List.mem_map.1 hx
 exact h j (List.mem_range.1 hj)
theorem posE_rangeAt {n k : Nat} {f : Nat → Int} {a : Int} (hk : k < n) (h : ∀ j, j < k → f j = 0) (h2 : f k ≠ 0) : posE a ((List.range n).map f) = some (a + k, f k) := by
 have := posE_at (l := (List.range n).map f) (a := a) (k := k) (by simpa using hk) (fun j hj => by rw [range_get]; exact h j hj) (by rw [range_get]; exact h2)
 rw [this, range_get]
def takenP (p : Prg) (k : Nat) : List ByteArray := p.sizes ++ (p.params.take k).map (·.1)
def takenD (p : Prg) (k : Nat) : List ByteArray := p.sizes ++ p.params.map (·.1) ++ (p.defs.take k).map (·.name)
noncomputable def szE (p : Prg) (k : Nat) : Int := match p.sizes[k]? with
 | some s => nameErr (p.sizes.take k) s
 | none => 0
noncomputable def parE (p : Prg) (k : Nat) : Int := match p.params[k]? with
 | some x => parErr p.sizes (takenP p k) x
 | none => 0
noncomputable def defE (p : Prg) (k : Nat) : Int := match p.defs[k]? with
 | some d => defErr p k (takenD p k) d
 | none => 0
noncomputable def outE (p : Prg) (k : Nat) : Int := match p.outs[k]? with
 | some s => if findS p s = none then 9 else if s ∈ p.outs.take k then 8 else 0
 | none => 0
def cntOk (p : Prg) : Prop := p.sizes.length ≤ 64 ∧ p.params.length ≤ 64 ∧ p.defs.length ≤ 64 ∧ p.outs.length ≤ 64 ∧ p.wher.length ≤ 256
instance (p : Prg) : Decidable (cntOk p) := inferInstanceAs (Decidable (_ ∧ _))
noncomputable def szErr (p : Prg) : Int := fstE ((List.range p.sizes.length).map (szE p))
noncomputable def whErr (p : Prg) : Int := fstE (p.wher.map fun c => formErr p.sizes c.1)
noncomputable def validS (p : Prg) : Int × Int :=
 if ¬ cntOk p then (0, 2) else if szErr p ≠ 0 then (0, szErr p) else if whErr p ≠ 0 then (1, whErr p)
 else match posE 2 ((List.range p.params.length).map (parE p)) with
 | some r => r
 |none => match posE (2 + p.params.length) ((List.range p.defs.length).map (defE p)) with
  | some r => r
  |none => match posE (2 + p.params.length + p.defs.length) ((List.range p.outs.length).map (outE p)) with
   | some r => r
   | none => (0, 0)
section
variable {p : Prg}
theorem validS_cnt (h : ¬ cntOk p) : validS p = (0, 2) := if_pos h
theorem validS_sz (h : cntOk p) {x : Int} (h1 : szErr p = x) (hx : x ≠ 0) : validS p = (0, x) := by
 unfold validS
 rw [if_neg (not_not_intro h), h1, if_pos hx]
theorem validS_wh (h : cntOk p) (h1 : szErr p = 0) {x : Int} (h2 : whErr p = x) (hx : x ≠ 0) : validS p = (1, x) := by
 unfold validS
 rw [if_neg (not_not_intro h), if_neg (not_not_intro h1), h2, if_pos hx]
theorem validS_par (h : cntOk p) (h1 : szErr p = 0) (h2 : whErr p = 0) {k : Nat} (hk : k < p.params.length) (h3 : ∀ j, j < k → parE p j = 0) {x : Int} (h4 : parE p k = x) (hx : x ≠ 0) : validS p = ((2 : Int) + k, x) := by
 unfold validS
 rw [if_neg (not_not_intro h), if_neg (not_not_intro h1), if_neg (not_not_intro h2), posE_rangeAt hk h3 (by rw [h4]; exact hx), h4]
theorem validS_def (h : cntOk p) (h1 : szErr p = 0) (h2 : whErr p = 0) (h3 : ∀ j, j < p.params.length → parE p j = 0) {k : Nat} (hk : k < p.defs.length) (h4 : ∀ j, j < k → defE p j = 0) {x : Int} (h5 : defE p k = x) (hx : x ≠ 0) : validS p = ((2 : Int) + p.params.length + k, x) := by
 unfold validS
 rw [if_neg (not_not_intro h), if_neg (not_not_intro h1), if_neg (not_not_intro h2), posE_range h3]
 simp only
 rw [posE_rangeAt hk h4 (by rw [h5]; exact hx), h5]
theorem validS_out (h : cntOk p) (h1 : szErr p = 0) (h2 : whErr p = 0) (h3 : ∀ j, j < p.params.length → parE p j = 0) (h4 : ∀ j, j < p.defs.length → defE p j = 0) {k : Nat} (hk : k < p.outs.length) (h5 : ∀ j, j < k → outE p j = 0) {x : Int} (h6 : outE p k = x) (hx : x ≠ 0) :
  validS p = ((2 : Int) + p.params.length + p.defs.length + k, x) := by
 unfold validS
 rw [if_neg (not_not_intro h), if_neg (not_not_intro h1), if_neg (not_not_intro h2), posE_range h3]
 simp only
 rw [posE_range h4]
 simp only
 rw [posE_rangeAt hk h5 (by rw [h6]; exact hx), h6]
theorem validS_ok (h : cntOk p) (h1 : szErr p = 0) (h2 : whErr p = 0) (h3 : ∀ j, j < p.params.length → parE p j = 0) (h4 : ∀ j, j < p.defs.length → defE p j = 0) (h5 : ∀ j, j < p.outs.length → outE p j = 0) : validS p = (0, 0) := by
 unfold validS
 rw [if_neg (not_not_intro h), if_neg (not_not_intro h1), if_neg (not_not_intro h2), posE_range h3]
 simp only
 rw [posE_range h4]
 simp only
 rw [posE_range h5]
theorem szE_at {k : Nat} (h : k < p.sizes.length) : szE p k = nameErr (p.sizes.take k) p.sizes[k] := by
 unfold szE
 rw [List.getElem?_eq_getElem h]
theorem parE_at {k : Nat} (h : k < p.params.length) : parE p k = parErr p.sizes (takenP p k) p.params[k] := by
 unfold parE
 rw [List.getElem?_eq_getElem h]
theorem defE_at {k : Nat} (h : k < p.defs.length) : defE p k = defErr p k (takenD p k) p.defs[k] := by
 unfold defE
 rw [List.getElem?_eq_getElem h]
theorem outE_at {k : Nat} (h : k < p.outs.length) : outE p k = if findS p p.outs[k] = none then 9 else if p.outs[k] ∈ p.outs.take k then 8 else 0 := by
 unfold outE
 rw [List.getElem?_eq_getElem h]
theorem szErr_ok (h : ∀ j, j < p.sizes.length → szE p j = 0) : szErr p = 0 := by
 have key : ∀ l : List Int, (∀ x ∈ l, x = 0) → fstE l = 0 := by
  intro l
  induction l with
  | nil => intro _; rfl
  | cons x r ih =>
   intro h
   rw [fstE, if_neg (not_not_intro (h x List.mem_cons_self))]
   exact ih fun y hy => h y (List.mem_cons_of_mem _ hy)
 exact key _ fun x hx => by
  obtain ⟨j, hj, rfl⟩ := List.mem_map.1 hx
  exact h j (List.mem_range.1 hj)
theorem szErr_at {k : Nat} (hk : k < p.sizes.length) (h : ∀ j, j < k → szE p j = 0) {x : Int} (h2 : szE p k = x) (hx : x ≠ 0) : szErr p = x := by
 have hl : k < ((List.range p.sizes.length).map (szE p)).length := by simpa using hk
 have h0 : fstE (((List.range p.sizes.length).map (szE p)).take k) = 0 := by
  have key : ∀ l : List Int, (∀ x ∈ l, x = 0) → fstE l = 0 := by
   intro l
   induction l with
   | nil => intro _; rfl
   | cons x r ih =>
    intro h
    rw [fstE, if_neg (not_not_intro (h x List.mem_cons_self))]
    exact ih fun y hy => h y (List.mem_cons_of_mem _ hy)
  refine key _ fun x hx => ?_
  obtain ⟨j, hj, rfl⟩ := List.mem_iff_getElem.1 hx
  rw [List.getElem_take, range_get]
  exact h j (by simp at hj; omega)
 have := fstE_hit hl h0 (by rw [range_get, h2]; exact hx)
 unfold szErr
 rw [this, range_get, h2]
theorem takenP_succ {k : Nat} (h : k < p.params.length) : takenP p (k + 1) = takenP p k ++ [p.params[k].1] := by
 unfold takenP
 rw [List.take_succ_eq_append_getElem h, List.map_append, List.append_assoc]
 rfl
theorem takenP_full : takenP p p.params.length = p.sizes ++ p.params.map (·.1) := by
 unfold takenP
 rw [List.take_of_length_le (Nat.le_refl _)]
theorem takenD_zero : takenD p 0 = p.sizes ++ p.params.map (·.1) := by simp [takenD]
theorem takenD_succ {k : Nat} (h : k < p.defs.length) : takenD p (k + 1) = takenD p k ++ [p.defs[k].name] := by
 unfold takenD
 rw [List.take_succ_eq_append_getElem h, List.map_append, ← List.append_assoc]
 rfl
theorem taken_len (k : Nat) (h : cntOk p) : (takenP p k).length ≤ 128 ∧ (takenD p k).length ≤ 192 := by
 obtain ⟨h1, h2, h3, _⟩ := h
 unfold takenP takenD
 simp
 omega
end
def before (p : Prg) (k : Nat) : Prg := { p with wher := [], defs := p.defs.take k, outs := [] }
theorem fewP_before {p : Prg} (h : fewP p) (k : Nat) : fewP (before p k) := ⟨h.1, fun d hd => h.2 d (List.mem_of_mem_take hd)⟩
def prg64 (p : Prg) : Prop := ∀ d ∈ p.defs, ∀ a ∈ d.body.pre, frIn a.val

abbrev KL := List (ByteArray × Int)
def entsP (K : KL) : List (MK × List PC) := K.map fun x => (MK.str x.1.data.toList, [pI x.2])
def entsA (K : KL) : List (MK × List AC) := K.map fun x => (MK.str x.1.data.toList, [.pure (pI x.2)])
def kLook : KL → ByteArray → Option Int
 | [], _ => none
 | (a, k) :: r, s => if a = s then some k else kLook r s
def kSet : KL → ByteArray → Int → KL
 | [], s, k => [(s, k)]
 | (a, j) :: r, s, k => if a = s then (s, k) :: r else (a, j) :: kSet r s k
def kGet (K : KL) (s : ByteArray) : Int := (kLook K s).getD 0
theorem key_eq {a s : ByteArray} : (MK.str a.data.toList = MK.str s.data.toList) ↔ a = s := by
 constructor
 ·intro h
  have h1 : a.data.toList = s.data.toList := by injection h
  obtain ⟨⟨a⟩⟩ := a
  obtain ⟨⟨s⟩⟩ := s
  simp only at h1
  rw [h1]
 ·intro h; rw [h]
theorem entsOf_P (K : KL) : entsOf (entsP K) = entsA K := by simp [entsOf, entsP, entsA, List.map_map, Function.comp_def]
theorem mlook_A (s : ByteArray) : ∀ K : KL, mlook (entsA K) (.str s.data.toList) = (kLook K s).map fun k => [.pure (pI k)]
 | [] => rfl
 |(a, k) :: r => by
  have ih := mlook_A s r
  simp only [entsA, List.map_cons, mlook, kLook] at ih ⊢
  by_cases h : a = s
  ·rw [if_pos (key_eq.2 h), if_pos h]; rfl
  ·rw [if_neg (fun e => h (key_eq.1 e)), if_neg h, ih]
theorem purEs_A {mem : List (Nat × Box)} : ∀ K : KL, purEs mem none (entsA K) = some (entsP K)
 | [] => rfl
 |x :: r => by
  have ih := purEs_A (mem := mem) r
  simp only [entsA, entsP, List.map_cons, purEs, purEnt, purQ] at ih ⊢
  rw [ih]
theorem mset_A (s : ByteArray) (k : Int) : ∀ K : KL, mset (entsA K) (.str s.data.toList) [.pure (pI k)] = entsA (kSet K s k)
 | [] => rfl
 |(a, j) :: r => by
  have ih := mset_A s k r
  simp only [entsA, List.map_cons, mset, kSet] at ih ⊢
  by_cases h : a = s
  ·rw [if_pos (key_eq.2 h), if_pos h]; rfl
  ·rw [if_neg (fun e => h (key_eq.1 e)), if_neg h, ih]; rfl
theorem kLook_set (K : KL) (s s' : ByteArray) (k : Int) : kLook (kSet K s k) s' = if s = s' then some k else kLook K s' := by
 induction K with
 | nil => simp [kSet, kLook]
 | cons x r ih =>
  obtain ⟨a, j⟩ := x
  simp only [kSet]
  by_cases h : a = s
  ·subst h
   rw [if_pos rfl]
   simp only [kLook]
   by_cases h2 : a = s' <;> simp [h2]
  ·rw [if_neg h]
   simp only [kLook, ih]
   by_cases h2 : a = s'
   ·subst h2
    rw [if_pos rfl, if_neg (fun e => h e.symm), if_pos rfl]
   ·rw [if_neg h2, if_neg h2]
theorem kGet_set (K : KL) (s s' : ByteArray) (k : Int) : kGet (kSet K s k) s' = if s = s' then k else kGet K s' := by
 unfold kGet
 rw [kLook_set]
 split <;> rfl
theorem kGet_nil (s : ByteArray) : kGet [] s = 0 := rfl
theorem kLook_get {K : KL} {s : ByteArray} {k : Int} (h : kLook K s = some k) : kGet K s = k := by unfold kGet; rw [h]; rfl
theorem kLook_none {K : KL} {s : ByteArray} (h : kLook K s = none) : kGet K s = 0 := by unfold kGet; rw [h]; rfl
def kPut (K : KL) (k : Int) : List ByteArray → KL
 | [] => K
 | s :: r => kPut (kSet K s k) k r
theorem kPut_app (k : Int) : ∀ (l r : List ByteArray) (K : KL), kPut K k (l ++ r) = kPut (kPut K k l) k r
 | [], r, K => rfl
 |s :: l, r, K => by
  simp only [List.cons_append, kPut]
  exact kPut_app k l r _
theorem kPut_take {K : KL} {k : Int} {l : List ByteArray} {i : Nat} (h : i < l.length) : kPut K k (l.take (i + 1)) = kSet (kPut K k (l.take i)) l[i] k := by
 rw [List.take_succ_eq_append_getElem h, kPut_app]
 rfl
theorem kGet_put {k : Int} (s : ByteArray) : ∀ (l : List ByteArray) (K : KL), kGet (kPut K k l) s = if s ∈ l then k else kGet K s
 | [], K => by simp [kPut]
 |a :: l, K => by
  rw [kPut, kGet_put s l, kGet_set]
  by_cases h : s ∈ l
  ·rw [if_pos h, if_pos (List.mem_cons_of_mem _ h)]
  ·rw [if_neg h]
   by_cases h2 : a = s
   ·rw [if_pos h2, if_pos (by rw [h2]; exact List.mem_cons_self)]
   ·rw [if_neg h2, if_neg]
    intro hm
    rcases List.mem_cons.1 hm with rfl | hm
    ·exact h2 rfl
    ·exact h hm
end Go.Proofs.YtbblkakcadonjaaGreatDoor
