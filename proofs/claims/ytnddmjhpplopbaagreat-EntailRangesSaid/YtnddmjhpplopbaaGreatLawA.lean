/- An argument that is an array of two: how it stands. -/
import Derived.Test.YtnddmjhpplopbaaGreatAbsQ
import Derived.OpenShut
set_option linter.unusedVariables false
set_option linter.unusedSimpArgs false
namespace Go.Abs
open Go.ChangeShapes Go.WideShapes Go.RowKit

section
variable {H : Type} {enc : TypeId × Value → H} {P : Program} {W : World} {base : Nat} {sp : Nat → Bool} {held : Bool}
theorem okWide_arr {r : Reach} {b0 : Nat} {t e : TypeId} {n : Nat} {v : Value} (ht : P.underlying t = some (.array n e)) (h : Value.okWide P W r b0 t v) : ∃ cs, v = .agg cs ∧ cs.size = P.cellsOf t := by
 simp only [Value.okWide, ht] at h
 obtain ⟨cs, h1, h2, _⟩ := h
 exact ⟨cs, h1, h2⟩
theorem arg_rep2 {r : Reach} {b0 : Nat} {t e : TypeId} {v : Value} {d : DataW H} {p : List MemPlace} {sf : Nat} {l : List TS} (ht : P.underlying t = some (.array 2 e)) (hs : shOf P sf e = some l) (hc : P.cellsOf t = 2 * P.cellsOf e)
  (hval : Value.okWide P W r b0 t v) (h : DataW.Trod enc P W base sp held t v d p) :
  ∃ ps, OkPs (l ++ l) ps ∧ RepV W All (fun _ => undef) 0 (argV true ps) v := by
 obtain ⟨cs, rfl, hsz⟩ := okWide_arr ht hval
 obtain ⟨fuel, hf⟩ := h
 obtain ⟨xs, m, _, _, hl, hlen, hx⟩ := DataW.trod_array ht hf
 have hl : cs.toList.length = P.cellsOf t := hl
 have h0 := hx 0 (by omega)
 have h1 := hx 1 (by omega)
 rw [List.getElem?_eq_getElem (by omega)] at h0 h1
 rw [Nat.zero_mul, List.drop_zero] at h0
 rw [Nat.one_mul] at h1
 obtain ⟨p0, a0, b0'⟩ := read_rep hs h0
 obtain ⟨p1, a1, b1⟩ := read_rep hs h1
 have e1 : (cs.toList.drop (P.cellsOf e)).take (P.cellsOf e) = cs.toList.drop (P.cellsOf e) := List.take_of_length_le (by rw [List.length_drop]; omega)
 have a1' : All2 (RepP W All) p1 (cs.toList.drop (P.cellsOf e)) := by rw [← e1]; exact a1
 have ha : All2 (RepP W All) (p0 ++ p1) cs.toList := by
  have := All2.append (show All2 (RepP W All) p0 (cs.toList.take (P.cellsOf e)) from a0) a1'
  rwa [List.take_append_drop] at this
 refine ⟨p0 ++ p1, b0'.append b1, ?_⟩
 refine .agg (All2.of_get (by simpa using ha.length) fun i x v hi hv => ?_)
 simp only [List.getElem?_map, Option.map_eq_some_iff] at hi
 obtain ⟨q, hq, rfl⟩ := hi
 obtain ⟨u, hu, hr⟩ := ha.get hq
 have : u = v := by
  rw [hv] at hu
  cases hu
  rfl
 subst this
 exact .pure hr
end
end Go.Abs
