/- From a law's contract in the abstract machine to its row. -/
import Derived.Test.YtehjbfljenpfoaaAbsQ
import Derived.Test.YtehjbfljenpfoaaRows
import Derived.ProofKit
import Derived.OpenShut
import Derived.SizedLaws
set_option linter.unusedVariables false
set_option linter.unusedSimpArgs false
namespace Go.Proofs.Ytehjbfljenpfoaa
open Go.ChangeShapes Go.WideShapes Go.ChangeAt Go.RowKit Go.Abs

theorem absOwn : ownKnob Try.prog.godebug = none := by kernel_rfl
theorem absLaidOut : laidOutB Try.prog = true := by kernel_rfl

theorem absStays {H : Type} {enc : TypeId × Value → H} {P : Program} (hl : laidOutB P = true) {W W' : World} (hb : Below W.heap.size W W') :
  ∀ (ts : List TypeId) (vs : List Value) (ds : List (DataW H)) (ps : List MemPlace), (ts.all fun t => P.readableRec t && decide (t < P.types.size)) = true →
   DataW.TrodAll enc P W 0 (fun _ => true) true ts vs ds ps → (∀ x ∈ ps, x.block < W.heap.size) →
   DataW.TrodAll enc P W' 0 (fun b => decide (b < W.heap.size)) true ts vs ds ps
 | [], [], [], ps, _, h, _ => h
 |t :: ts, v :: vs, d :: ds, ps, hts, h, hlt => by
  obtain ⟨p, q, h1, h2, rfl⟩ := h
  simp only [List.all_cons, Bool.and_eq_true, decide_eq_true_eq] at hts
  exact ⟨p, q, Below.trod hl hts.1.1 hts.1.2 h1 hb (fun x hx => hlt x (by simp [hx])),
   absStays hl hb ts vs ds q hts.2 h2 (fun x hx => hlt x (by simp [hx])), rfl⟩
 | [], [], _ :: _, _, _, h, _ => h.elim
 | [], _ :: _, _, _, _, h, _ => h.elim
 | _ :: _, [], _, _, _, h, _ => h.elim
 | _ :: _, _ :: _, [], _, _, h, _ => h.elim

theorem abs_post {H : Type} {enc : TypeId × Value → H} {f : Func} {s : ChangeSpec} {W W' : World} {args : Array Value} {ds gs : List (DataW H)} {before : List MemPlace}
  (hts : (f.params.toList.all fun t => Try.prog.readableRec t && decide (t < Try.prog.types.size)) = true)
  (hrt : f.resultTypes = #[4]) (hsv : s.vars = []) (hW : DataW.Whole enc Try.prog f.params.toList s.vars false W args.toList ds gs before)
  (hr : (s.fn H (ds ++ gs)).results = [.lit (.bool true)]) (ha : (s.fn H (ds ++ gs)).args = ds) (hv : (s.fn H (ds ++ gs)).vars = []) (hx : Below W.heap.size W W') :
  s.post enc Try.prog f false true false false W args (.bool true) W' := by
 have hlt := hW.lt
 have hW' := hW
 obtain ⟨p, q, hA, hV, rfl, _, _⟩ := hW
 rw [hsv] at hV
 obtain ⟨rfl, rfl⟩ := trodVars_none hV
 refine ⟨ds, [], p ++ [], [], p, [], hW', ?_, ?_, ?_, hx.frame _, fun h => by cases h⟩
 ·rw [hr, hrt]
  exact trodAll_mk1 (shut_bool Try.underlying4 true)
 ·rw [ha]
  exact absStays absLaidOut hx _ _ _ _ hts hA (fun x hx => hlt x (by simpa using hx))
 ·rw [hv, hsv]
  rfl

theorem abs_calls {f : FuncId} {args : List AV} {vs : Array Value} {W : World} (h : PCalls Try.prog f args (Go.Abs.B true)) (hG : Glob W) (hr : All2 (RepV W All (fun _ => undef) 0) args vs.toList) :
  Calls Try.prog f vs W fun e W' => e = .returned (.bool true) ∧ Below W.heap.size W W' := by
 refine (h.2 W All vs hG hr).mono fun e W' ⟨v, he, hv, hb⟩ => ?_
 cases hv with
 | c hv =>
  cases hv with
  | pure hv =>
   cases hv
   exact ⟨he, hb⟩
end Go.Proofs.Ytehjbfljenpfoaa
