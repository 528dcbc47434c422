/- Reads, active tensors, losses; plainly. -/
import Derived.Test.YtfjnhdfhgenkdaaGreatDoorP17
set_option linter.unusedVariables false
set_option linter.unusedSimpArgs false
namespace Go.Proofs.YtfjnhdfhgenkdaaGreatDoor
open Go.Abs Go.RowKit

mutual
/-- An expression reads one of the tensors in a value position. -/
def rdE (names : List ByteArray) : Ex → Prop
 | .mk op name val ty lin idx args => (op = 3 ∧ name ∈ names) ∨ rdEs names (op = 11) args
def rdEs (names : List ByteArray) : Prop → List Ex → Prop
 | _, [] => False
 | sk, a :: r => (¬ sk ∧ rdE names a) ∨ rdEs names False r
end
noncomputable instance (names : List ByteArray) (e : Ex) : Decidable (rdE names e) := Classical.propDecidable _
theorem rdEs_iff {names : List ByteArray} : ∀ {l : List Ex} {sk : Prop}, rdEs names sk l ↔ ∃ i, ∃ h : i < l.length, (¬ sk ∨ 0 < i) ∧ rdE names l[i]
 | [], sk => by simp [rdEs]
 |a :: r, sk => by
  rw [rdEs, rdEs_iff (l := r)]
  constructor
  ·rintro (⟨h1, h2⟩ | ⟨i, h, _, h2⟩)
   ·exact ⟨0, by simp, .inl h1, h2⟩
   ·exact ⟨i + 1, by simpa using h, .inr (by omega), h2⟩
  ·rintro ⟨i, h, h1, h2⟩
   cases i with
   | zero => exact .inl ⟨h1.resolve_right (by omega), h2⟩
   | succ i => exact .inr ⟨i, by simpa using h, .inl (fun h => h), h2⟩
theorem rd_iff {names : List ByteArray} {e : Ex} : rdE names e ↔ (e.op = 3 ∧ e.name ∈ names) ∨ ∃ i, ∃ h : i < e.args.length, (¬ e.op = 11 ∨ 0 < i) ∧ rdE names e.args[i] := by
 obtain ⟨op, name, val, ty, lin, idx, args⟩ := e
 rw [rdE, rdEs_iff]
 rfl
mutual
/-- An expression casts an active fraction to another type in a value position. -/
def lsE (p : Prg) (vars act : List ByteArray) : Ex → Prop
 | .mk op name val ty lin idx args => (op = 12 ∧ ¬ ty.1 = 1 ∧ ∃ h : 0 < args.length, (typeOf p vars args[0]).1.1 = 1 ∧ rdE act args[0]) ∨ lsEs p vars act (op = 11) args
def lsEs (p : Prg) (vars act : List ByteArray) : Prop → List Ex → Prop
 | _, [] => False
 | sk, a :: r => (¬ sk ∧ lsE p vars act a) ∨ lsEs p vars act False r
end
noncomputable instance (p : Prg) (vars act : List ByteArray) (e : Ex) : Decidable (lsE p vars act e) := Classical.propDecidable _
theorem lsEs_iff {p : Prg} {vars act : List ByteArray} : ∀ {l : List Ex} {sk : Prop}, lsEs p vars act sk l ↔ ∃ i, ∃ h : i < l.length, (¬ sk ∨ 0 < i) ∧ lsE p vars act l[i]
 | [], sk => by simp [lsEs]
 |a :: r, sk => by
  rw [lsEs, lsEs_iff (l := r)]
  constructor
  ·rintro (⟨h1, h2⟩ | ⟨i, h, _, h2⟩)
   ·exact ⟨0, by simp, .inl h1, h2⟩
   ·exact ⟨i + 1, by simpa using h, .inr (by omega), h2⟩
  ·rintro ⟨i, h, h1, h2⟩
   cases i with
   | zero => exact .inl ⟨h1.resolve_right (by omega), h2⟩
   | succ i => exact .inr ⟨i, by simpa using h, .inl (fun h => h), h2⟩
theorem ls_iff {p : Prg} {vars act : List ByteArray} {e : Ex} : lsE p vars act e ↔ (e.op = 12 ∧ ¬ e.ty.1 = 1 ∧ ∃ h : 0 < e.args.length, (typeOf p vars e.args[0]).1.1 = 1 ∧ rdE act e.args[0]) ∨ ∃ i, ∃ h : i < e.args.length, (¬ e.op = 11 ∨ 0 < i) ∧ lsE p vars act e.args[i] := by
 obtain ⟨op, name, val, ty, lin, idx, args⟩ := e
 rw [lsE, lsEs_iff]
 rfl
/-- The active tensors among the first parameters and definitions. -/
def actP (p : Prg) (k : Nat) : List ByteArray := ((p.params.take k).filter fun x => decide (x.2.1.1 = 1)).map (·.1)
noncomputable def actD (p : Prg) : Nat → List ByteArray
 | 0 => actP p p.params.length
 |k + 1 => match p.defs[k]? with
  | some d => if d.ty.1 = 1 ∧ rdE (actD p k) d.body then actD p k ++ [d.name] else actD p k
  | none => actD p k
noncomputable def actS (p : Prg) : List ByteArray := actD p p.defs.length
theorem actP_yes {p : Prg} {k : Nat} (h : k < p.params.length) (h1 : p.params[k].2.1.1 = 1) : actP p (k + 1) = actP p k ++ [p.params[k].1] := by
 unfold actP
 rw [List.take_succ_eq_append_getElem h, List.filter_append, List.map_append]
 simp [h1]
theorem actP_no {p : Prg} {k : Nat} (h : k < p.params.length) (h1 : ¬ p.params[k].2.1.1 = 1) : actP p (k + 1) = actP p k := by
 unfold actP
 rw [List.take_succ_eq_append_getElem h, List.filter_append, List.map_append]
 simp [h1]
theorem actD_yes {p : Prg} {k : Nat} (h : k < p.defs.length) (h1 : p.defs[k].ty.1 = 1) (h2 : rdE (actD p k) p.defs[k].body) : actD p (k + 1) = actD p k ++ [p.defs[k].name] := by
 rw [actD, List.getElem?_eq_getElem h]
 exact if_pos ⟨h1, h2⟩
theorem actD_no {p : Prg} {k : Nat} (h : k < p.defs.length) (h1 : ¬ (p.defs[k].ty.1 = 1 ∧ rdE (actD p k) p.defs[k].body)) : actD p (k + 1) = actD p k := by
 rw [actD, List.getElem?_eq_getElem h]
 exact if_neg h1
theorem actP_len {p : Prg} (k : Nat) : (actP p k).length ≤ p.params.length := by
 unfold actP
 rw [List.length_map]
 refine Nat.le_trans (List.length_filter_le _ _) ?_
 rw [List.length_take]
 omega
theorem actD_len {p : Prg} : ∀ k : Nat, (actD p k).length ≤ p.params.length + k
 | 0 => actP_len _
 |k + 1 => by
  have ih := actD_len (p := p) k
  rw [actD]
  split
  ·split
   ·rw [List.length_append, List.length_singleton]; omega
   ·omega
  ·omega
noncomputable def lsI (p : Prg) (k : Nat) : Int := match p.defs[k]? with
 | some d => if lsE p (idxNames d) (actS p) d.body then 20 else 0
 | none => 0
theorem lsI_at {p : Prg} {k : Nat} (h : k < p.defs.length) : lsI p k = if lsE p (idxNames p.defs[k]) (actS p) p.defs[k].body then 20 else 0 := by
 unfold lsI
 rw [List.getElem?_eq_getElem h]
noncomputable def difS (p : Prg) : Int × Int := if (validS p).2 ≠ 0 then validS p else (posE 0 ((List.range p.defs.length).map (lsI p))).getD (0, 0)
theorem difS_err {p : Prg} (h : ¬ (validS p).2 = 0) : difS p = validS p := if_pos h
theorem difS_ok {p : Prg} (h : (validS p).2 = 0) (h1 : ∀ j, j < p.defs.length → lsI p j = 0) : difS p = (0, 0) := by
 unfold difS
 rw [if_neg (not_not_intro h), posE_range h1]
 rfl
theorem difS_at {p : Prg} (h : (validS p).2 = 0) {k : Nat} (hk : k < p.defs.length) (h1 : ∀ j, j < k → lsI p j = 0) (h2 : lsI p k = 20) : difS p = ((k : Int), 20) := by
 unfold difS
 rw [if_neg (not_not_intro h), posE_rangeAt hk h1 (by rw [h2]; decide), h2]
 show ((0 : Int) + k, (20 : Int)) = _
 rw [Int.zero_add]
theorem posE_ne {l : List Int} : ∀ {a : Int} {r : Int × Int}, posE a l = some r → r.2 ≠ 0 := by
 induction l with
 | nil => intro a r h; cases h
 | cons x l ih =>
  intro a r h
  rw [posE] at h
  split at h
  ·cases h; assumption
  ·exact ih h
theorem posE_all {l : List Int} : ∀ {a : Int}, posE a l = none → ∀ x ∈ l, x = 0 := by
 induction l with
 | nil => intro a _ x hx; cases hx
 | cons y l ih =>
  intro a h x hx
  rw [posE] at h
  split at h
  ·cases h
  ·rename_i hy
   rcases List.mem_cons.1 hx with rfl | hx
   ·exact Classical.not_not.1 hy
   ·exact ih h x hx
/-- The bodies of a valid program are valid. -/
theorem valid_bodies {p : Prg} (h : (validS p).2 = 0) : ∀ k (hk : k < p.defs.length), exErr p.defs[k].body = 0 := by
 have hd : ∀ j, j < p.defs.length → defE p j = 0 := by
  unfold validS at h
  split at h
  ·cases h
  ·split at h
   ·exact absurd h ‹_›
   ·split at h
    ·exact absurd h ‹_›
    ·split at h
     ·rename_i r hr
      exact absurd h (posE_ne hr)
     ·split at h
      ·rename_i r hr
       exact absurd h (posE_ne hr)
      ·rename_i hr
       intro j hj
       exact posE_all hr _ (List.mem_map.2 ⟨j, List.mem_range.2 hj, rfl⟩)
 intro k hk
 have h0 := hd k hk
 rw [defE_at hk] at h0
 unfold defErr at h0
 split at h0
 ·exact absurd h0 ‹_›
 ·split at h0
  ·cases h0
  ·split at h0
   ·cases h0
   ·split at h0
    ·exact absurd h0 ‹_›
    ·split at h0
     ·exact absurd h0 ‹_›
     ·split at h0
      ·exact absurd h0 ‹_›
      ·rename_i ht
       refine Classical.not_not.1 fun hn => ht ?_
       unfold typeOf
       rw [if_pos hn]
       exact hn
theorem valid_cnt {p : Prg} (h : (validS p).2 = 0) : cntOk p := by
 unfold validS at h
 split at h
 ·cases h
 ·exact Classical.not_not.1 ‹_›
end Go.Proofs.YtfjnhdfhgenkdaaGreatDoor
