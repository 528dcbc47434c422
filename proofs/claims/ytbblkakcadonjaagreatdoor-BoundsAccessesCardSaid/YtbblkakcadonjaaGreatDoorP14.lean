/- Expressions, plainly. Valid expressions, plainly. -/
import Derived.Test.YtbblkakcadonjaaGreatDoorV12a
set_option linter.unusedVariables false
set_option linter.unusedSimpArgs false
namespace Go.Proofs.YtbblkakcadonjaaGreatDoor
open Go.Abs Go.RowKit

abbrev Ix := Lin × ByteArray × List Lin
def linP (l : Lin) : List PC := [pI l.1, pMonos l.2]
def ixP (x : Ix) : List PC := [pI x.1.1, pMonos x.1.2, pS x.2.1, pSl linP x.2.2]
abbrev aIx (x : Ix) : AV := .agg [.pure (pI x.1.1), .pure (pMonos x.1.2), .pure (pS x.2.1), .pure (pSl linP x.2.2)]
inductive Ex where
 | mk (op : Int) (name : ByteArray) (val : Fr) (ty : Ty) (lin : Lin) (idx : List Ix) (args : List Ex)
namespace Ex
def op : Ex → Int | .mk o _ _ _ _ _ _ => o
def name : Ex → ByteArray | .mk _ s _ _ _ _ _ => s
def val : Ex → Fr | .mk _ _ v _ _ _ _ => v
def ty : Ex → Ty | .mk _ _ _ t _ _ _ => t
def lin : Ex → Lin | .mk _ _ _ _ l _ _ => l
def idx : Ex → List Ix | .mk _ _ _ _ _ x _ => x
def args : Ex → List Ex | .mk _ _ _ _ _ _ a => a
mutual
def row : Ex → List PC
 | .mk op name val ty lin idx args => [pI op, pS name, pI val.1, pI val.2, pI ty.1, pI ty.2.1, pI ty.2.2.1, pI ty.2.2.2.1, pI ty.2.2.2.2, pI lin.1, pMonos lin.2, pSl ixP idx, .slice (rows args)]
def rows : List Ex → List (List PC)
 | [] => []
 | e :: r => row e :: rows r
end
theorem rows_eq : ∀ l : List Ex, rows l = l.map row
 | [] => by rw [rows]; rfl
 | e :: r => by rw [rows, rows_eq r]; rfl
theorem row_eq (e : Ex) : e.row = [pI e.op, pS e.name, pI e.val.1, pI e.val.2, pI e.ty.1, pI e.ty.2.1, pI e.ty.2.2.1, pI e.ty.2.2.2.1, pI e.ty.2.2.2.2, pI e.lin.1, pMonos e.lin.2, pSl ixP e.idx, .slice (e.args.map row)] := by
 obtain ⟨op, name, val, ty, lin, idx, args⟩ := e
 rw [row, rows_eq]
 rfl
mutual
def dep : Ex → Nat
 | .mk _ _ _ _ _ _ args => 1 + deps args
def deps : List Ex → Nat
 | [] => 0
 | e :: r => max (dep e) (deps r)
end
mutual
def sz : Ex → Nat
 | .mk _ _ _ _ _ _ args => 1 + szs args
def szs : List Ex → Nat
 | [] => 0
 | e :: r => sz e + szs r
end
mutual
def pre : Ex → List Ex
 | .mk op name val ty lin idx args => .mk op name val ty lin idx args :: pres args
def pres : List Ex → List Ex
 | [] => []
 | e :: r => pre e ++ pres r
end
theorem dep_eq (e : Ex) : e.dep = 1 + deps e.args := by cases e; rw [dep]; rfl
theorem sz_eq (e : Ex) : e.sz = 1 + szs e.args := by cases e; rw [sz]; rfl
theorem pre_eq (e : Ex) : e.pre = e :: pres e.args := by cases e; rw [pre]; rfl
theorem size_args {e a : Ex} (h : a ∈ e.args) : SizeOf.sizeOf a < SizeOf.sizeOf e := by
 obtain ⟨op, name, val, ty, lin, idx, args⟩ := e
 have := List.sizeOf_lt_of_mem (show a ∈ args from h)
 simp only [mk.sizeOf_spec]
 omega
theorem ind {p : Ex → Prop} (h : ∀ e : Ex, (∀ a ∈ e.args, p a) → p e) : ∀ e : Ex, p e := by
 have key : ∀ (n : Nat) (e : Ex), SizeOf.sizeOf e < n → p e := by
  intro n
  induction n with
  | zero => intro e he; omega
  | succ n ih => exact fun e he => h e fun a ha => ih a (by have := size_args ha; omega)
 exact fun e => key _ e (Nat.lt_succ_self _)
theorem dep_pos (e : Ex) : 1 ≤ e.dep := by rw [dep_eq]; omega
theorem deps_take : ∀ {l : List Ex} {k : Nat} (h : k < l.length), deps (l.take (k + 1)) = max (deps (l.take k)) (l[k].dep)
 | e :: r, 0, h => by simp [deps]
 |e :: r, k + 1, h => by
  have := deps_take (l := r) (k := k) (by simpa using h)
  simp only [List.take_succ_cons, deps, this, List.getElem_cons_succ]
  omega
theorem szs_append : ∀ (l r : List Ex), szs (l ++ r) = szs l + szs r
 | [], r => by simp [szs]
 | e :: l, r => by simp only [List.cons_append, szs, szs_append l r]; omega
theorem szs_take {l : List Ex} {k : Nat} (h : k < l.length) : szs (l.take (k + 1)) = szs (l.take k) + l[k].sz := by
 rw [List.take_succ_eq_append_getElem h, szs_append]
 simp [szs]
theorem pres_append : ∀ (l r : List Ex), pres (l ++ r) = pres l ++ pres r
 | [], r => by simp [pres]
 | e :: l, r => by simp only [List.cons_append, pres, pres_append l r, List.append_assoc]
theorem pres_take {l : List Ex} {k : Nat} (h : k < l.length) : pres (l.take (k + 1)) = pres (l.take k) ++ l[k].pre := by
 rw [List.take_succ_eq_append_getElem h, pres_append]
 simp [pres]
theorem pres_length : ∀ {l : List Ex}, (∀ a ∈ l, a.pre.length = a.sz) → (pres l).length = szs l
 | [], _ => by simp [pres, szs]
 | e :: r, h => by rw [pres, szs, List.length_append, h e List.mem_cons_self, pres_length fun a ha => h a (List.mem_cons_of_mem _ ha)]
theorem pre_length (e : Ex) : e.pre.length = e.sz := by
 refine ind (p := fun e => e.pre.length = e.sz) (fun e ih => ?_) e
 rw [pre_eq, sz_eq, List.length_cons, pres_length ih]
 omega
theorem sz_pos (e : Ex) : 1 ≤ e.sz := by rw [sz_eq]; omega
theorem szs_len : ∀ l : List Ex, l.length ≤ szs l
 | [] => by simp
 | e :: r => by have := szs_len r; have := sz_pos e; rw [szs, List.length_cons]; omega
end Ex
abbrev aEx (e : Ex) : AV := .agg [.pure (pI e.op), .pure (pS e.name), .pure (pI e.val.1), .pure (pI e.val.2), .pure (pI e.ty.1), .pure (pI e.ty.2.1), .pure (pI e.ty.2.2.1), .pure (pI e.ty.2.2.2.1), .pure (pI e.ty.2.2.2.2), .pure (pI e.lin.1), .pure (pMonos e.lin.2), .pure (pSl ixP e.idx), .pure (.slice (e.args.map Ex.row))]

theorem BD {b : Bool} {p : Prop} [Decidable p] (h : b = true ↔ p) : AV.c (.pure (.val (.bool b))) = Go.Abs.B (decide p) := by
 have : b = decide p := by by_cases hp : p <;> simp_all
 rw [this]
theorem IE {a b : Int} (h : a = b) : AV.c (.pure (.val (.int .i64 a))) = I b := by rw [h]
theorem decI {p : Prop} : dec p = true ↔ p := ⟨fun h => Classical.byContradiction (fun hn => (by rw [dec_false hn] at h; cases h)), dec_true⟩
theorem decN {p : Prop} : dec p = false ↔ ¬ p := ⟨fun h hp => (by rw [dec_true hp] at h; cases h), dec_false⟩
theorem BC {b : Bool} {p : Prop} (h : b = true ↔ p) : AV.c (.pure (.val (.bool b))) = Go.Abs.B (dec p) := by
 have : b = dec p := by
  by_cases hp : p
  ·rw [dec_true hp, h.2 hp]
  ·rw [dec_false hp]; exact Bool.eq_false_iff.2 fun e => hp (h.1 e)
 rw [this]
def isCond (o : Int) : Prop := 13 ≤ o ∧ o ≤ 18
instance (o : Int) : Decidable (isCond o) := inferInstanceAs (Decidable (_ ∧ _))
def arity (o : Int) : Int := if o = 1 ∨ o = 2 ∨ o = 3 then 0 else if o = 8 ∨ o = 12 ∨ o = 18 then 1 else if o = 11 then 3 else 2
def wantsC (o : Int) (i : Nat) : Prop := o = 16 ∨ o = 17 ∨ o = 18 ∨ (o = 11 ∧ i = 0)
instance (o : Int) (i : Nat) : Decidable (wantsC o i) := inferInstanceAs (Decidable (_ ∨ _))
def linZ (l : Lin) : Prop := l.1 = 0 ∧ l.2.length = 0
instance (l : Lin) : Decidable (linZ l) := inferInstanceAs (Decidable (_ ∧ _))
def wfIx (x : Ix) : Prop := (x.2.1 = ⟨⟨[]⟩⟩ → x.2.2.length = 0) ∧ (x.2.1 ≠ ⟨⟨[]⟩⟩ → linZ x.1)
noncomputable instance (x : Ix) : Decidable (wfIx x) := Classical.propDecidable _
def synOk (e : Ex) : Prop := (1 ≤ e.op ∧ e.op ≤ 18) ∧ (e.op ≠ 1 → e.val.1 = 0 ∧ e.val.2 = 0) ∧ (e.op ≠ 1 → e.op ≠ 12 → e.ty.1 = 0 ∧ e.ty.2.1 = 0 ∧ e.ty.2.2.1 = 0 ∧ e.ty.2.2.2.1 = 0 ∧ e.ty.2.2.2.2 = 0) ∧
 (e.op ≠ 2 → linZ e.lin) ∧ (e.op ≠ 3 → e.name = ⟨⟨[]⟩⟩ ∧ e.idx.length = 0) ∧ ∀ x ∈ e.idx, wfIx x
def namOk (e : Ex) : Prop := (e.op = 3 → idOk e.name) ∧ ∀ x ∈ e.idx, x.2.1 ≠ ⟨⟨[]⟩⟩ → idOk x.2.1
def rnkOk (e : Ex) : Prop := (e.args.length : Int) = arity e.op ∧ e.idx.length ≤ 6 ∧ ∀ x ∈ e.idx, x.2.2.length ≤ 6
def typdOk (e : Ex) : Prop := ((e.op = 1 ∨ e.op = 12) → tyOk e.ty) ∧ ∀ (i : Nat) (h : i < e.args.length), isCond e.args[i].op ↔ wantsC e.op i
def Ex.forms (e : Ex) : List Lin := e.lin :: e.idx.flatMap fun x => x.1 :: x.2.2
def frmdOk (e : Ex) : Prop := (e.op = 1 → valOk e.ty e.val) ∧ ∀ l ∈ e.forms, linOk l.2
noncomputable instance (e : Ex) : Decidable (synOk e) := Classical.propDecidable _
noncomputable instance (e : Ex) : Decidable (namOk e) := Classical.propDecidable _
noncomputable instance (e : Ex) : Decidable (rnkOk e) := Classical.propDecidable _
noncomputable instance (e : Ex) : Decidable (typdOk e) := Classical.propDecidable _
noncomputable instance (e : Ex) : Decidable (frmdOk e) := Classical.propDecidable _
noncomputable def nodeErr (e : Ex) : Int := if ¬ synOk e then 5 else if ¬ namOk e then 7 else if ¬ rnkOk e then 11 else if ¬ typdOk e then 10 else if ¬ frmdOk e then 1 else 0
def fstE : List Int → Int
 | [] => 0
 | x :: r => if x ≠ 0 then x else fstE r
theorem fstE_append : ∀ (l r : List Int), fstE (l ++ r) = if fstE l ≠ 0 then fstE l else fstE r
 | [], r => by simp [fstE]
 |x :: l, r => by
  simp only [List.cons_append, fstE, fstE_append l r]
  by_cases h : x = 0 <;> simp [h]
theorem fstE_takeN {l : List Int} {k : Nat} (h : k < l.length) (hf : fstE (l.take k) = 0) : fstE (l.take (k + 1)) = l[k] := by
 rw [List.take_succ_eq_append_getElem h, fstE_append, if_neg (by rw [hf]; simp)]
 simp only [fstE]
 split <;> simp_all
theorem fstE_hit {l : List Int} {k : Nat} (h : k < l.length) (hf : fstE (l.take k) = 0) (hp : l[k] ≠ 0) : fstE l = l[k] := by
 have key : fstE (l.take (k + 1) ++ l.drop (k + 1)) = l[k] := by rw [fstE_append, fstE_takeN h hf, if_pos hp]
 rw [List.take_append_drop] at key
 exact key
noncomputable def partErr (e : Ex) : Int := fstE (e.pre.map nodeErr)
noncomputable def exErr (e : Ex) : Int := if 40 < e.dep then 13 else if 2000 < e.sz then 2 else partErr e
theorem partErr_eq (e : Ex) : partErr e = if nodeErr e ≠ 0 then nodeErr e else fstE ((Ex.pres e.args).map nodeErr) := by
 rw [partErr, Ex.pre_eq, List.map_cons, fstE]
theorem nodeErr_ok {e : Ex} (h : nodeErr e = 0) : synOk e ∧ namOk e ∧ rnkOk e ∧ typdOk e ∧ frmdOk e := by
 unfold nodeErr at h
 repeat' split at h
 all_goals first
  | (simp at h; done)
  | simp_all
noncomputable def idxOf {α : Type} (p : α → Prop) (xs : List α) : Int := match xs.findIdx? (fun x => dec (p x)) with
 | some k => k
 | none => -1
theorem idxOf_at {α : Type} {p : α → Prop} {xs : List α} {k : Nat} (hk : k < xs.length) (h : p xs[k]) (hn : ∀ j (hj : j < k), ¬ p (xs[j]'(by omega))) : idxOf p xs = k := by
 have : xs.findIdx? (fun x => dec (p x)) = some k := by
  rw [List.findIdx?_eq_some_iff_getElem]
  exact ⟨hk, dec_true h, fun j hj => by simp [dec_false (hn j hj)]⟩
 rw [idxOf, this]
theorem idxOf_none {α : Type} {p : α → Prop} {xs : List α} (hn : ∀ j (hj : j < xs.length), ¬ p xs[j]) : idxOf p xs = -1 := by
 have : xs.findIdx? (fun x => dec (p x)) = none := by
  rw [List.findIdx?_eq_none_iff]
  intro x hx
  obtain ⟨j, hj, rfl⟩ := List.mem_iff_getElem.1 hx
  exact dec_false (hn j hj)
 rw [idxOf, this]
theorem idxOf_cases {α : Type} (p : α → Prop) (xs : List α) : (idxOf p xs = -1 ∧ ∀ x ∈ xs, ¬ p x) ∨ ∃ k, ∃ h : k < xs.length, idxOf p xs = k ∧ p xs[k] ∧ ∀ j (hj : j < k), ¬ p (xs[j]'(by omega)) := by
 unfold idxOf
 cases e : xs.findIdx? (fun x => dec (p x)) with
 | none =>
  rw [List.findIdx?_eq_none_iff] at e
  refine .inl ⟨rfl, fun x hx h => ?_⟩
  have := e x hx
  rw [dec_true h] at this
  cases this
 | some k =>
  rw [List.findIdx?_eq_some_iff_getElem] at e
  obtain ⟨hk, h1, h2⟩ := e
  refine .inr ⟨k, hk, rfl, ?_, fun j hj h => ?_⟩
  ·exact Classical.byContradiction fun hn => by rw [dec_false hn] at h1; cases h1
  ·have := h2 j hj
   rw [dec_true h] at this
   simp at this
theorem idxOf_ge {α : Type} {p : α → Prop} {xs : List α} : 0 ≤ idxOf p xs ↔ ∃ x ∈ xs, p x := by
 rcases idxOf_cases p xs with ⟨h1, h2⟩ | ⟨k, hk, h1, h2, _⟩
 ·rw [h1]
  exact ⟨fun h => by omega, fun ⟨x, hx, h⟩ => absurd h (h2 x hx)⟩
 ·rw [h1]
  exact ⟨fun _ => ⟨_, List.getElem_mem hk, h2⟩, fun _ => by omega⟩
end Go.Proofs.YtbblkakcadonjaaGreatDoor
