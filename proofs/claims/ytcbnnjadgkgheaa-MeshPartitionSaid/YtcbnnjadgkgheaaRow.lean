/- From a law's walk to its row: every argument reads behind the call as before. -/
import Derived.Test.YtcbnnjadgkgheaaBase
import Derived.ProofKit
import Derived.OpenShut
import Derived.SizedLaws
set_option linter.unusedVariables false
set_option linter.unusedSimpArgs false
namespace Go.Proofs.Ytcbnnjadgkgheaa
open Go.ChangeShapes Go.WideShapes Go.ChangeAt Go.RowKit

theorem Try.own : ownKnob Try.prog.godebug = none := by kernel_rfl
theorem Try.laidOut : laidOutB Try.prog = true := by kernel_rfl

/-- What a law's walk shows: it answers true, and old memory is as it was. -/
def LawPost (W : World) (e : Ending) (W' : World) : Prop := e = .returned (.bool true) ∧ Ext W W'

theorem trodAll_stays {H : Type} {enc : TypeId × Value → H} {P : Program} (hl : laidOutB P = true) {W W' : World} (hb : Below W.heap.size W W') :
    ∀ (ts : List TypeId) (vs : List Value) (ds : List (DataW H)) (ps : List MemPlace), (ts.all fun t => P.readableRec t && decide (t < P.types.size)) = true →
      DataW.TrodAll enc P W 0 (fun _ => true) true ts vs ds ps → (∀ x ∈ ps, x.block < W.heap.size) →
      DataW.TrodAll enc P W' 0 (fun b => decide (b < W.heap.size)) true ts vs ds ps
  | [], [], [], ps, _, h, _ => h
  | t :: ts, v :: vs, d :: ds, ps, hts, h, hlt => by
    obtain ⟨p, q, h1, h2, rfl⟩ := h
    simp only [List.all_cons, Bool.and_eq_true, decide_eq_true_eq] at hts
    exact ⟨p, q, Below.trod hl hts.1.1 hts.1.2 h1 hb (fun x hx => hlt x (by simp [hx])),
      trodAll_stays hl hb ts vs ds q hts.2 h2 (fun x hx => hlt x (by simp [hx])), rfl⟩
  | [], [], _ :: _, _, _, h, _ => h.elim
  | [], _ :: _, _, _, _, h, _ => h.elim
  | _ :: _, [], _, _, _, h, _ => h.elim
  | _ :: _, _ :: _, [], _, _, h, _ => h.elim

theorem law_post {H : Type} {enc : TypeId × Value → H} {f : Func} {s : ChangeSpec} {W W' : World} {args : Array Value} {ds gs : List (DataW H)} {before : List MemPlace}
    (hts : (f.params.toList.all fun t => Try.prog.readableRec t && decide (t < Try.prog.types.size)) = true)
    (hrt : f.resultTypes = #[4]) (hsv : s.vars = []) (hW : DataW.Whole enc Try.prog f.params.toList s.vars false W args.toList ds gs before)
    (hr : (s.fn H (ds ++ gs)).results = [.lit (.bool true)]) (ha : (s.fn H (ds ++ gs)).args = ds) (hv : (s.fn H (ds ++ gs)).vars = []) (hx : Ext W W') :
    s.post enc Try.prog f false true false false W args (.bool true) W' := by
  have hlt := hW.lt
  have hW' := hW
  obtain ⟨p, q, hA, hV, rfl, _, _⟩ := hW
  rw [hsv] at hV
  obtain ⟨rfl, rfl⟩ := trodVars_none hV
  refine ⟨ds, [], p ++ [], [], p, [], hW', ?_, ?_, ?_, hx.below.frame _, fun h => by cases h⟩
  · rw [hr, hrt]
    exact trodAll_mk1 (shut_bool Try.underlying4 true)
  · rw [ha]
    exact trodAll_stays Try.laidOut hx _ _ _ _ hts hA (fun x hx => hlt x (by simpa using hx))
  · rw [hv, hsv]
    rfl

/-- The numbers of a list fit int. -/
def Rng (xs : List Int) : Prop := ∀ x ∈ xs, -9223372036854775808 ≤ x ∧ x ≤ 9223372036854775807
theorem rng_of_wf {x : Int} (h : (Lit.int .i64 x).wf = true) : -9223372036854775808 ≤ x ∧ x ≤ 9223372036854775807 := by
  have h1 : IntKind.i64.min = -9223372036854775808 := rfl
  have h2 : IntKind.i64.max = 9223372036854775807 := rfl
  simp only [Lit.wf, Bool.and_eq_true, decide_eq_true_eq] at h
  omega

theorem cellsOfInt : Try.prog.cellsOf 3 = 1 := by kernel_rfl
set_option maxRecDepth 100000 in
/-- A reading of one cell that is a slice of ints. -/
theorem open_cell_ints {H : Type} {enc : TypeId × Value → H} {W : World} {base fuel : Nat} {held : Bool} {t : TypeId} {v : Value} {x : DataW H × List MemPlace}
    (ht : Try.prog.underlying t = some (.slice 3)) (hf : DataW.trod enc Try.prog W base (fun _ => true) held fuel t [v] = some x) :
    ∃ xs, IsInts W v xs ∧ Rng xs := by
  rcases open_ints ht Try.underlying3 cellsOfInt hf with ⟨hcs, hx⟩ | ⟨a, len', cap', zs, hcs, _, hl, hm, hz, hx, hcell, hwz⟩
  · obtain rfl : v = .slice none 0 0 := by simpa using hcs
    exact ⟨[], IsInts.nil W, fun x hx => by cases hx⟩
  · obtain rfl : v = .slice (some a) len' cap' := by simpa using hcs
    simp only [if_true] at hz
    have hlen : (zs.take len').length = len' := by simp; omega
    unfold maxLen at hm
    refine ⟨zs.take len', ⟨some a, cap', by rw [hlen], by rw [hlen]; exact hl, by rw [hlen]; omega, fun k hk => ?_, fun k hk => ?_⟩, fun x hx => rng_of_wf (hwz x (List.mem_of_mem_take hx))⟩
    · simp at hk
      obtain ⟨b, off, spot⟩ := a
      have hspot : spot = none := by simpa [Addr.add] using World.cell?_spot (hcell 0 (by omega))
      subst hspot
      exact ⟨b, off, rfl⟩
    · simp at hk
      show W.cell? (a.add k) = _
      rw [hcell k (by omega), List.getElem?_map, List.getElem?_take_of_lt (by omega), List.getD_eq_getElem?_getD, List.getElem?_eq_getElem (by omega)]
      rfl
set_option maxRecDepth 100000 in
/-- A slice of ints among the arguments. -/
theorem open_arg_ints {H : Type} {enc : TypeId × Value → H} {W : World} {b0 base : Nat} {held : Bool} {t : TypeId} {v : Value} {d : DataW H} {p : List MemPlace} {r : Reach}
    (ht : Try.prog.underlying t = some (.slice 3))
    (hval : Value.okWide Try.prog W r b0 t v) (h : DataW.Trod enc Try.prog W base (fun _ => true) held t v d p) :
    ∃ xs, IsInts W v xs ∧ Rng xs := by
  obtain ⟨a0, len, cap, rfl⟩ := okWide_slice ht hval
  obtain ⟨fuel, hf⟩ := h
  exact open_cell_ints ht hf

end Go.Proofs.Ytcbnnjadgkgheaa
