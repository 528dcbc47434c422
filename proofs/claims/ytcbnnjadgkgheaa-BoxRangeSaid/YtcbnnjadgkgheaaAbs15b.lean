/- The abstract machine: an operation has one outcome; it hangs on its operands and on the memory alone. -/
import Derived.Test.YtcbnnjadgkgheaaAbs15
set_option linter.unusedVariables false
set_option linter.unusedSimpArgs false
namespace Go.Abs
open Go.RowKit

def Det (F : (AV → St → Prop) → Prop) : Prop := ∀ K, F K → ∃ v σ', F (fun v' τ => v' = v ∧ τ = σ') ∧ K v σ'
theorem det_case {α : Type} {o : Option α} {F : α → (AV → St → Prop) → Prop} {G : (AV → St → Prop) → Prop} (h : ∀ x, Det (F x)) (h' : Det G) : Det fun K => @caseW _ o ⟨fun x => F x K⟩ ⟨G K⟩ := fun K hK => by
  cases o with
  | none =>
    obtain ⟨v, s, h1, h2⟩ := h' K (hK.2 rfl)
    exact ⟨v, s, ⟨(fun x e => by cases e), fun _ => h1⟩, h2⟩
  | some x =>
    obtain ⟨v, s, h1, h2⟩ := h x K (hK.1 x rfl)
    exact ⟨v, s, ⟨fun y e => by cases e; exact h1, (fun e => by cases e)⟩, h2⟩
theorem det_K {v : AV} {σ : St} : Det fun K => K v σ := fun K h => ⟨v, σ, ⟨rfl, rfl⟩, h⟩
theorem det_false : Det fun _ => False := fun K h => h.elim
theorem det_and {p : Prop} {F : (AV → St → Prop) → Prop} (h : Det F) : Det fun K => @andW p ⟨F K⟩ := fun K hK => by
  obtain ⟨v, s, h1, h2⟩ := h K hK.2
  exact ⟨v, s, ⟨hK.1, h1⟩, h2⟩
theorem det_opt {α : Type} {o : Option α} {F : α → (AV → St → Prop) → Prop} (h : ∀ x, Det (F x)) : Det fun K => @optW _ o ⟨fun x => F x K⟩ := fun K hK => by
  obtain ⟨x, e, hK⟩ := hK
  obtain ⟨v, s, h1, h2⟩ := h x K hK
  exact ⟨v, s, ⟨x, e, h1⟩, h2⟩
theorem det_cond {t : Bool} {F G : (AV → St → Prop) → Prop} (h : Det F) (h' : Det G) : Det fun K => @condW t ⟨F K⟩ ⟨G K⟩ := fun K hK => by
  cases t with
  | true =>
    obtain ⟨v, s, h1, h2⟩ := h K (hK.1 rfl)
    exact ⟨v, s, ⟨fun _ => h1, (fun e => by cases e)⟩, h2⟩
  | false =>
    obtain ⟨v, s, h1, h2⟩ := h' K (hK.2 rfl)
    exact ⟨v, s, ⟨(fun e => by cases e), fun _ => h1⟩, h2⟩

theorem det_binI {op : BinOp} {k : IntKind} {a b : Int} {σ : St} : Det fun K => binI op k a b fun v => K (.c (.pure (.val v))) σ := by
  cases op <;> simp only [binI] <;> first | exact det_false | exact det_and det_K | exact det_K
theorem det_binS {op : BinOp} {a b : ByteArray} {σ : St} : Det fun K => binS op a b fun v => K (.c (.pure (.val v))) σ := by
  cases op <;> simp only [binS] <;> first | exact det_false | exact det_and det_K | exact det_K
theorem det_binW {op : BinOp} {x y : Value} {σ : St} : Det fun K => binW op x y fun v => K (.c (.pure (.val v))) σ := by
  unfold binW
  split
  · exact det_and det_binI
  · exact det_binS
  · exact det_false
theorem det_shiftW {op : BinOp} {x y : Value} {σ : St} : Det fun K => shiftW op x y fun v => K (.c (.pure (.val v))) σ := by
  unfold shiftW
  split
  · refine det_and ?_
    cases op <;> simp only [shiftI] <;> first | exact det_false | exact det_K
  · exact det_false
theorem det_build {σ : St} {F : List AC → (AV → St → Prop) → Prop} (hF : ∀ x, Det (F x)) : ∀ {ps : List (Nat × Nat × AX)} {acc : List AC}, Det fun K => opW.buildW σ ps acc fun xs => F xs K
  | [], acc => hF acc
  | (off, n, x) :: ps, acc => by
    simp only [opW.buildW]
    split
    · exact det_and (det_build hF)
    · exact det_false
theorem det_bslice {σ : St} {sz : Nat} {F : List (List PC) → (AV → St → Prop) → Prop} (hF : ∀ x, Det (F x)) : ∀ {ps : List AX} {acc : List (List PC)}, Det fun K => opW.bsliceW σ sz ps acc fun xs => F xs K
  | [], acc => hF acc
  | x :: ps, acc => by
    simp only [opW.bsliceW]
    split
    · exact det_opt fun z => det_and (det_bslice hF)
    · exact det_false
theorem det_bsliceF {σ : St} {sz : Nat} {F : List (List PC) → List (Nat × Box) → (AV → St → Prop) → Prop} (hF : ∀ x m, Det (F x m)) : ∀ {ps : List AX} {mem : List (Nat × Box)} {acc : List (List PC)}, Det fun K => opW.bsliceFW σ sz ps mem acc fun xs m => F xs m K
  | [], mem, acc => hF acc mem
  | x :: ps, mem, acc => by
    simp only [opW.bsliceFW]
    split
    · exact det_opt fun z => det_and (det_bsliceF hF)
    · exact det_false
theorem det_mkfn {σ : St} {F : List AC → (AV → St → Prop) → Prop} (hF : ∀ x, Det (F x)) : ∀ {ps : List AX} {acc : List AC}, Det fun K => opW.mkfnW σ ps acc fun xs => F xs K
  | [], acc => hF acc
  | x :: ps, acc => by
    simp only [opW.mkfnW]
    split
    · exact det_mkfn hF
    · exact det_false
theorem det_call {P : Program} {g : Bool} {f : FuncId} {args : List AV} {σ : St} : Det fun K => @callW P g f args σ ⟨K⟩ := by
  rintro K (⟨pargs, h1, res, h2, h4⟩ | ⟨h1, res, m, n, h2, h4⟩)
  · exact ⟨res, σ, .inl ⟨pargs, h1, res, h2, rfl, rfl⟩, h4⟩
  · exact ⟨res, _, .inr ⟨h1, res, m, n, h2, rfl, rfl⟩, h4⟩
theorem det_app {e sz bytes : Nat} {x y : AV} {ys : List (List PC)} {σ : St} : Det fun K => @appW e sz bytes x y ys σ ⟨K⟩ := by
  rintro K ⟨hok, h⟩
  rcases h with ⟨nm, h1, h2, rows, h3, h4, h5, h6⟩ | ⟨h1, h | h⟩ | ⟨rows, h1, h2, ⟨h3, h⟩ | h⟩
  · exact ⟨_, _, ⟨hok, .inl ⟨nm, h1, h2, rows, h3, h4, h5, rfl, rfl⟩⟩, h6⟩
  · exact ⟨_, _, ⟨hok, .inr (.inl ⟨h1, .inl ⟨h.1, h.2.1, rfl, rfl⟩⟩)⟩, h.2.2⟩
  · exact ⟨_, _, ⟨hok, .inr (.inl ⟨h1, .inr ⟨h.1, h.2.1, rfl, rfl⟩⟩)⟩, h.2.2⟩
  · exact ⟨_, _, ⟨hok, .inr (.inr ⟨rows, h1, h2, .inl ⟨h3, h.1, h.2.1, rfl, rfl⟩⟩)⟩, h.2.2⟩
  · exact ⟨_, _, ⟨hok, .inr (.inr ⟨rows, h1, h2, .inr ⟨h.1, h.2.1, rfl, rfl⟩⟩)⟩, h.2.2⟩

/-- An operation has one outcome. -/
theorem opW_det {P : Program} {op : AOp} {σ : St} : Det (opW P op σ) := by
  have eta : ∀ {F : (AV → St → Prop) → Prop}, Det (fun K => F K) → Det F := fun h => h
  apply eta
  cases op <;> simp only [opW]
  case mv => exact det_K
  case pick => split; exact det_cond det_K det_K; exact det_false
  case box => split; exact det_K; exact det_false
  case load =>
    split
    · split
      · split
        · split
          · exact det_K
          · exact det_false
        · exact det_and det_K
      · exact det_false
    · exact det_false
  case store =>
    split
    · split
      · exact det_and det_K
      · exact det_false
    · split
      · exact det_and (det_opt fun z => det_opt fun r => det_K)
      · exact det_false
    · exact det_false
  case bin =>
    split
    · split
      · exact det_shiftW
      · exact det_shiftW
      · exact det_binW
    · exact det_false
  case eqb => split; exact det_K; exact det_false
  case un => split <;> first | exact det_K | exact det_false
  case conv => split; exact det_K; exact det_false
  case fieldA => split <;> first | exact det_K | exact det_false
  case field =>
    split
    · split
      · split
        · exact det_K
        · exact det_false
      · exact det_and det_K
    · exact det_false
  case idxA =>
    split
    · exact det_and (det_opt fun r => det_and det_K)
    · exact det_and (det_opt fun r => det_and det_K)
    · split
      · exact det_and det_K
      · exact det_false
    · exact det_false
  case idxR => split <;> first | exact det_and det_K | exact det_false
  case idxS => split; exact det_and (det_opt fun b => det_K); exact det_false
  case nilc => split <;> first | exact det_K | exact det_false
  case build => exact det_build fun x => det_K
  case bslice => exact det_bslice fun x => det_K
  case mkslice => split; exact det_and det_K; exact det_false
  case slc =>
    split
    · exact det_false
    · exact det_opt fun rows => det_opt fun lo => det_opt fun hi => det_opt fun mx => det_and det_K
  case slcS => split; exact det_and det_K; exact det_false
  case ext => split; exact det_opt fun v => det_K; exact det_false
  case len =>
    split
    · exact det_K
    · exact det_K
    · exact det_K
    · split
      · exact det_K
      · exact det_false
    · exact det_false
  case lenS => split; exact det_K; exact det_false
  case mm => split; exact det_K; exact det_false
  case fnil => split; exact det_K; exact det_K; exact det_false
  case app => exact det_opt fun ys => det_app
  case mkfn => exact det_mkfn fun x => det_K
  case call => split; exact det_call; exact det_false
  case bsliceF => exact det_bsliceF fun x m => det_K
  case mkmap => exact det_K
  case mget =>
    split
    · refine det_opt fun mk => ?_
      split
      · split
        · exact det_and (det_case (fun ps => det_K) det_K)
        · exact det_false
      · exact det_false
    · exact det_false
  case mput =>
    split
    · refine det_opt fun mk => ?_
      split
      · refine det_opt fun ys => det_opt fun z => ?_
        split
        · exact det_and det_K
        · exact det_false
      · exact det_false
    · exact det_false
end Go.Abs
