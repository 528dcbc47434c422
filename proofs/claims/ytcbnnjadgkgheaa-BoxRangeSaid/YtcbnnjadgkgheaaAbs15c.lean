/- The abstract machine: what an operation hangs on. -/
import Derived.Test.YtcbnnjadgkgheaaAbs15b
set_option linter.unusedVariables false
set_option linter.unusedSimpArgs false
namespace Go.Abs
open Go.RowKit

theorem ev_eq {fr fr2 : List (Nat × AV)} {x : AX} (h : ∀ t ∈ x.tmps, look fr2 t = look fr t) : x.ev fr2 = x.ev fr := by
  cases x with
  | t n => exact h n (by simp [AX.tmps])
  | k v => rfl

def Rel1 (s s2 : St) (F F2 : (AV → St → Prop) → Prop) : Prop := ∀ K K2, (∀ v, K v s → K2 v s2) → F K → F2 K2
section
variable {s s2 : St}
theorem rel_K {v : AV} : Rel1 s s2 (fun K => K v s) (fun K => K v s2) := fun K K2 hk h => hk v h
theorem rel_false {F2 : (AV → St → Prop) → Prop} : Rel1 s s2 (fun _ => False) F2 := fun K K2 hk h => h.elim
theorem rel_and {p : Prop} {F F2 : (AV → St → Prop) → Prop} (h : Rel1 s s2 F F2) : Rel1 s s2 (fun K => @andW p ⟨F K⟩) (fun K => @andW p ⟨F2 K⟩) := fun K K2 hk hK => ⟨hK.1, h K K2 hk hK.2⟩
theorem rel_opt {α : Type} {o : Option α} {F F2 : α → (AV → St → Prop) → Prop} (h : ∀ x, Rel1 s s2 (F x) (F2 x)) : Rel1 s s2 (fun K => @optW _ o ⟨fun x => F x K⟩) (fun K => @optW _ o ⟨fun x => F2 x K⟩) := fun K K2 hk hK => by
  obtain ⟨x, e, hK⟩ := hK
  exact ⟨x, e, h x K K2 hk hK⟩
theorem rel_cond {t : Bool} {F G F2 G2 : (AV → St → Prop) → Prop} (h : Rel1 s s2 F F2) (h' : Rel1 s s2 G G2) : Rel1 s s2 (fun K => @condW t ⟨F K⟩ ⟨G K⟩) (fun K => @condW t ⟨F2 K⟩ ⟨G2 K⟩) := fun K K2 hk hK =>
  ⟨fun e => h K K2 hk (hK.1 e), fun e => h' K K2 hk (hK.2 e)⟩
theorem rel_case {α : Type} {o : Option α} {F F2 : α → (AV → St → Prop) → Prop} {G G2 : (AV → St → Prop) → Prop} (h : ∀ x, Rel1 s s2 (F x) (F2 x)) (h' : Rel1 s s2 G G2) : Rel1 s s2 (fun K => @caseW _ o ⟨fun x => F x K⟩ ⟨G K⟩) (fun K => @caseW _ o ⟨fun x => F2 x K⟩ ⟨G2 K⟩) := fun K K2 hk hK =>
  ⟨fun x e => h x K K2 hk (hK.1 x e), fun e => h' K K2 hk (hK.2 e)⟩
theorem rel_binI {op : BinOp} {k : IntKind} {a b : Int} : Rel1 s s2 (fun K => binI op k a b fun v => K (.c (.pure (.val v))) s) (fun K => binI op k a b fun v => K (.c (.pure (.val v))) s2) := by
  cases op <;> simp only [binI] <;> first | exact rel_false | exact rel_and rel_K | exact rel_K
theorem rel_binS {op : BinOp} {a b : ByteArray} : Rel1 s s2 (fun K => binS op a b fun v => K (.c (.pure (.val v))) s) (fun K => binS op a b fun v => K (.c (.pure (.val v))) s2) := by
  cases op <;> simp only [binS] <;> first | exact rel_false | exact rel_and rel_K | exact rel_K
theorem rel_binW {op : BinOp} {x y : Value} : Rel1 s s2 (fun K => binW op x y fun v => K (.c (.pure (.val v))) s) (fun K => binW op x y fun v => K (.c (.pure (.val v))) s2) := by
  unfold binW
  split
  · exact rel_and rel_binI
  · exact rel_binS
  · exact rel_false
theorem rel_shiftW {op : BinOp} {x y : Value} : Rel1 s s2 (fun K => shiftW op x y fun v => K (.c (.pure (.val v))) s) (fun K => shiftW op x y fun v => K (.c (.pure (.val v))) s2) := by
  unfold shiftW
  split
  · refine rel_and ?_
    cases op <;> simp only [shiftI] <;> first | exact rel_false | exact rel_K
  · exact rel_false
theorem rel_build {F F2 : List AC → (AV → St → Prop) → Prop} (hF : ∀ x, Rel1 s s2 (F x) (F2 x)) : ∀ {ps : List (Nat × Nat × AX)} {acc : List AC}, (∀ t ∈ psTmps ps, look s2.fr t = look s.fr t) → Rel1 s s2 (fun K => opW.buildW s ps acc fun xs => F xs K) (fun K => opW.buildW s2 ps acc fun xs => F2 xs K)
  | [], acc, h => hF acc
  | (off, n, x) :: ps, acc, h => by
    simp only [opW.buildW]
    rw [ev_eq fun t ht => h t (by simp [psTmps, ht])]
    split
    · exact rel_and (rel_build hF fun t ht => h t (by simp [psTmps, ht]))
    · exact rel_false
theorem rel_bslice {sz : Nat} {F F2 : List (List PC) → (AV → St → Prop) → Prop} (hF : ∀ x, Rel1 s s2 (F x) (F2 x)) : ∀ {ps : List AX} {acc : List (List PC)}, (∀ t ∈ xsTmps ps, look s2.fr t = look s.fr t) → Rel1 s s2 (fun K => opW.bsliceW s sz ps acc fun xs => F xs K) (fun K => opW.bsliceW s2 sz ps acc fun xs => F2 xs K)
  | [], acc, h => hF acc
  | x :: ps, acc, h => by
    simp only [opW.bsliceW]
    rw [ev_eq fun t ht => h t (by simp [xsTmps, ht])]
    split
    · exact rel_opt fun z => rel_and (rel_bslice hF fun t ht => h t (by simp [xsTmps, ht]))
    · exact rel_false
theorem rel_mkfn {F F2 : List AC → (AV → St → Prop) → Prop} (hF : ∀ x, Rel1 s s2 (F x) (F2 x)) : ∀ {ps : List AX} {acc : List AC}, (∀ t ∈ xsTmps ps, look s2.fr t = look s.fr t) → Rel1 s s2 (fun K => opW.mkfnW s ps acc fun xs => F xs K) (fun K => opW.mkfnW s2 ps acc fun xs => F2 xs K)
  | [], acc, h => hF acc
  | x :: ps, acc, h => by
    simp only [opW.mkfnW]
    rw [ev_eq fun t ht => h t (by simp [xsTmps, ht])]
    split
    · exact rel_mkfn hF fun t ht => h t (by simp [xsTmps, ht])
    · exact rel_false
theorem bound_eq {y : Option AX} (h : ∀ t ∈ oTmps y, look s2.fr t = look s.fr t) : opW.boundOf s2 y = opW.boundOf s y := by
  cases y with
  | none => rfl
  | some x => simp only [opW.boundOf, ev_eq (x := x) h]
theorem evs_eq {fr fr2 : List (Nat × AV)} : ∀ {xs : List AX}, (∀ t ∈ xsTmps xs, look fr2 t = look fr t) → xs.map (·.ev fr2) = xs.map (·.ev fr)
  | [], _ => rfl
  | x :: xs, h => by
    rw [List.map_cons, List.map_cons, ev_eq fun t ht => h t (by simp [xsTmps, ht]), evs_eq fun t ht => h t (by simp [xsTmps, ht])]
end

section
variable {P : Program} {op : AOp}
/-- An operation that changes no memory: it hangs on its operands, and on the memory where it looks at it. -/
theorem opW_ins {s s2 : St} (he : op.eff = false) (hm : op.sens = true → s2.mem = s.mem) (hf : ∀ t ∈ op.tmps, look s2.fr t = look s.fr t) : Rel1 s s2 (opW P op s) (opW P op s2) := by
  have eta : ∀ {F F2 : (AV → St → Prop) → Prop}, Rel1 s s2 (fun K => F K) (fun K => F2 K) → Rel1 s s2 F F2 := fun h => h
  apply eta
  cases op <;> simp only [opW] <;> simp [AOp.eff] at he
  case mv => rw [ev_eq hf]; exact rel_K
  case pick c a b =>
    rw [ev_eq (x := c) fun t ht => hf t (by simp [AOp.tmps, ht]), ev_eq (x := a) fun t ht => hf t (by simp [AOp.tmps, ht]), ev_eq (x := b) fun t ht => hf t (by simp [AOp.tmps, ht])]
    split; exact rel_cond rel_K rel_K; exact rel_false
  case load n p =>
    rw [ev_eq (x := p) fun t ht => hf t (by simp [AOp.tmps, ht]), hm rfl]
    split
    · split
      · split
        · split
          · exact rel_K
          · exact rel_false
        · exact rel_and rel_K
      · exact rel_false
    · exact rel_false
  case bin op x y =>
    rw [ev_eq (x := x) fun t ht => hf t (by simp [AOp.tmps, ht]), ev_eq (x := y) fun t ht => hf t (by simp [AOp.tmps, ht])]
    split
    · split
      · exact rel_shiftW
      · exact rel_shiftW
      · exact rel_binW
    · exact rel_false
  case eqb n x y =>
    rw [ev_eq (x := x) fun t ht => hf t (by simp [AOp.tmps, ht]), ev_eq (x := y) fun t ht => hf t (by simp [AOp.tmps, ht])]
    split; exact rel_K; exact rel_false
  case un => rw [ev_eq hf]; split <;> first | exact rel_K | exact rel_false
  case conv => rw [ev_eq hf]; split; exact rel_K; exact rel_false
  case fieldA => rw [ev_eq hf]; split <;> first | exact rel_K | exact rel_false
  case field =>
    rw [ev_eq hf]
    split
    · split
      · split
        · exact rel_K
        · exact rel_false
      · exact rel_and rel_K
    · exact rel_false
  case idxA sz x y =>
    rw [ev_eq (x := x) fun t ht => hf t (by simp [AOp.tmps, ht]), ev_eq (x := y) fun t ht => hf t (by simp [AOp.tmps, ht]), hm rfl]
    split
    · exact rel_and (rel_opt fun r => rel_and rel_K)
    · exact rel_and (rel_opt fun r => rel_and rel_K)
    · split
      · exact rel_and rel_K
      · exact rel_false
    · exact rel_false
  case idxR l sz x y =>
    rw [ev_eq (x := x) fun t ht => hf t (by simp [AOp.tmps, ht]), ev_eq (x := y) fun t ht => hf t (by simp [AOp.tmps, ht])]
    split <;> first | exact rel_and rel_K | exact rel_false
  case idxS x y =>
    rw [ev_eq (x := x) fun t ht => hf t (by simp [AOp.tmps, ht]), ev_eq (x := y) fun t ht => hf t (by simp [AOp.tmps, ht])]
    split; exact rel_and (rel_opt fun b => rel_K); exact rel_false
  case nilc => rw [ev_eq hf]; split <;> first | exact rel_K | exact rel_false
  case build => exact rel_build (fun x => rel_K) hf
  case bslice => exact rel_bslice (fun x => rel_K) hf
  case slc sz x l h m =>
    rw [ev_eq (x := x) fun t ht => hf t (by simp [AOp.tmps, ht]), bound_eq (y := l) fun t ht => hf t (by simp [AOp.tmps, ht]), bound_eq (y := h) fun t ht => hf t (by simp [AOp.tmps, ht]), bound_eq (y := m) fun t ht => hf t (by simp [AOp.tmps, ht]), hm rfl]
    split
    · exact rel_false
    · exact rel_opt fun rows => rel_opt fun lo => rel_opt fun hi => rel_opt fun mx => rel_and rel_K
  case slcS x l h =>
    rw [ev_eq (x := x) fun t ht => hf t (by simp [AOp.tmps, ht]), bound_eq (y := l) fun t ht => hf t (by simp [AOp.tmps, ht]), bound_eq (y := h) fun t ht => hf t (by simp [AOp.tmps, ht])]
    split; exact rel_and rel_K; exact rel_false
  case ext => rw [ev_eq hf]; split; exact rel_opt fun v => rel_K; exact rel_false
  case len =>
    rw [ev_eq hf, hm rfl]
    split
    · exact rel_K
    · exact rel_K
    · exact rel_K
    · split
      · exact rel_K
      · exact rel_false
    · exact rel_false
  case lenS => rw [ev_eq hf]; split; exact rel_K; exact rel_false
  case mm m x y =>
    rw [ev_eq (x := x) fun t ht => hf t (by simp [AOp.tmps, ht]), ev_eq (x := y) fun t ht => hf t (by simp [AOp.tmps, ht])]
    split; exact rel_K; exact rel_false
  case fnil => rw [ev_eq hf]; split; exact rel_K; exact rel_K; exact rel_false
  case mkfn => exact rel_mkfn (fun x => rel_K) hf
  case call g f xs =>
    subst he
    rw [ev_eq (x := f) fun t ht => hf t (by simp [AOp.tmps, ht]), evs_eq (xs := xs) fun t ht => hf t (by simp [AOp.tmps, ht])]
    split
    · rintro K K2 hk (⟨pargs, h1, res, h2, h4⟩ | ⟨h1, _⟩)
      · exact .inl ⟨pargs, by rw [hm rfl]; exact h1, res, h2, hk _ h4⟩
      · cases h1
    · exact rel_false
  case mget kt n z ok m k =>
    rw [ev_eq (x := m) fun t ht => hf t (by simp [AOp.tmps, ht]), ev_eq (x := k) fun t ht => hf t (by simp [AOp.tmps, ht]), hm rfl]
    split
    · refine rel_opt fun mk => ?_
      split
      · split
        · exact rel_and (rel_case (fun ps => rel_K) rel_K)
        · exact rel_false
      · exact rel_false
    · exact rel_false

theorem bsliceF_eff {s s2 : St} {sz : Nat} {F F2 : List (List PC) → List (Nat × Box) → Prop} (hF : ∀ x m, F x m → F2 x m) : ∀ {ps : List AX} {mem : List (Nat × Box)} {acc : List (List PC)}, (∀ t ∈ xsTmps ps, look s2.fr t = look s.fr t) → opW.bsliceFW s sz ps mem acc F → opW.bsliceFW s2 sz ps mem acc F2
  | [], mem, acc, h, h1 => hF _ _ h1
  | x :: ps, mem, acc, h, h1 => by
    simp only [opW.bsliceFW] at h1 ⊢
    rw [ev_eq fun t ht => h t (by simp [xsTmps, ht])]
    split at h1
    · obtain ⟨z, e, h2, h3⟩ := h1
      exact ⟨z, e, h2, bsliceF_eff hF (fun t ht => h t (by simp [xsTmps, ht])) h3⟩
    · exact h1.elim

/-- An operation that changes memory: it hangs on its operands and on the memory. -/
theorem opW_eff {fr fr2 : List (Nat × AV)} {mem : List (Nat × Box)} {nx b : Nat} {K K2 : AV → St → Prop} (he : op.eff = true) (hf : ∀ t ∈ op.tmps, look fr2 t = look fr t) (hk : ∀ v m n, K v ⟨fr, m, n, b⟩ → K2 v ⟨fr2, m, n, b⟩) (h : opW P op ⟨fr, mem, nx, b⟩ K) : opW P op ⟨fr2, mem, nx, b⟩ K2 := by
  cases op <;> simp [AOp.eff] at he <;> simp only [opW] at h ⊢
  case box x =>
    rw [ev_eq (x := x) hf]
    split at h
    · exact hk _ _ _ h
    · exact h.elim
  case store n x y =>
    rw [ev_eq (x := x) fun t ht => hf t (by simp [AOp.tmps, ht]), ev_eq (x := y) fun t ht => hf t (by simp [AOp.tmps, ht])]
    split at h
    · split at h
      · exact ⟨h.1, hk _ _ _ h.2⟩
      · exact h.elim
    · split at h
      · obtain ⟨h1, zs, h2, r, h3, h4⟩ := h
        exact ⟨h1, zs, h2, r, h3, hk _ _ _ h4⟩
      · exact h.elim
    · exact h.elim
  case mkslice e sz b z x =>
    rw [ev_eq (x := x) hf]
    split at h
    · exact ⟨h.1, hk _ _ _ h.2⟩
    · exact h.elim
  case call g f xs =>
    rw [ev_eq (x := f) fun t ht => hf t (by simp [AOp.tmps, ht]), evs_eq (xs := xs) fun t ht => hf t (by simp [AOp.tmps, ht])]
    split at h
    · rcases h with ⟨pargs, h1, res, h2, h4⟩ | ⟨h1, res, m, n, h2, h4⟩
      · exact .inl ⟨pargs, h1, res, h2, hk _ _ _ h4⟩
      · exact .inr ⟨h1, res, m, n, h2, hk _ _ _ h4⟩
    · exact h.elim
  case bsliceF sz xs => exact bsliceF_eff (s := ⟨fr, mem, nx, b⟩) (s2 := ⟨fr2, mem, nx, b⟩) (fun x m h => hk _ _ _ h) hf h
  case mkmap kt n => exact hk _ _ _ h
  case mput kt n m k v =>
    rw [ev_eq (x := m) fun t ht => hf t (by simp [AOp.tmps, ht]), ev_eq (x := k) fun t ht => hf t (by simp [AOp.tmps, ht]), ev_eq (x := v) fun t ht => hf t (by simp [AOp.tmps, ht])]
    split at h
    · obtain ⟨mk, hmk, h⟩ := h
      refine ⟨mk, hmk, ?_⟩
      simp only at h ⊢
      split at h
      · obtain ⟨ys, hys, z, hz, h⟩ := h
        refine ⟨ys, hys, z, hz, ?_⟩
        simp only at h ⊢
        split at h
        · exact ⟨h.1, hk _ _ _ h.2⟩
        · exact h.elim
      · exact h.elim
    · exact h.elim
  case app e sz b x y =>
    rw [ev_eq (x := x) fun t ht => hf t (by simp [AOp.tmps, ht]), ev_eq (x := y) fun t ht => hf t (by simp [AOp.tmps, ht])]
    obtain ⟨ys, hys, hok, h⟩ := h
    refine ⟨ys, hys, hok, ?_⟩
    rcases h with ⟨nm, h1, h2, rows, h3, h4, h5, h6⟩ | ⟨h1, h | h⟩ | ⟨rows, h1, h2, ⟨h3, h⟩ | h⟩
    · exact .inl ⟨nm, h1, h2, rows, h3, h4, h5, hk _ _ _ h6⟩
    · exact .inr (.inl ⟨h1, .inl ⟨h.1, h.2.1, hk _ _ _ h.2.2⟩⟩)
    · exact .inr (.inl ⟨h1, .inr ⟨h.1, h.2.1, hk _ _ _ h.2.2⟩⟩)
    · exact .inr (.inr ⟨rows, h1, h2, .inl ⟨h3, h.1, h.2.1, hk _ _ _ h.2.2⟩⟩)
    · exact .inr (.inr ⟨rows, h1, h2, .inr ⟨h.1, h.2.1, hk _ _ _ h.2.2⟩⟩)
end
end Go.Abs
