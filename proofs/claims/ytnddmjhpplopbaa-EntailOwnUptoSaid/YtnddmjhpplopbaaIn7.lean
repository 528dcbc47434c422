/- What a law's inputs are: constraints. -/
import Derived.Test.YtnddmjhpplopbaaV07d
import Derived.Test.YtnddmjhpplopbaaIn0
set_option linter.unusedVariables false
set_option linter.unusedSimpArgs false
set_option maxRecDepth 20000
namespace Go.Proofs.Ytnddmjhpplopbaa
open Go.Abs Go.RowKit

theorem okMonos {p : PC} (h : OkP (.slice [.str, .int .i64]) p) : ∃ l : List Mono, p = pMonos l ∧ (∀ m ∈ l, in64 m.2) ∧ l.length ≤ maxLen :=
 okRows mP (fun m => in64 m.2) (fun r hr => by
  obtain ⟨p, r, rfl, hp, hr⟩ := okCons hr
  obtain ⟨q, rfl, hq⟩ := okOne hr
  obtain ⟨s, rfl, _⟩ := okStr hp
  obtain ⟨n, rfl, hn⟩ := okInt hq
  exact ⟨(s, n), rfl, hn⟩) h
theorem okCon {ps : List PC} (h : OkPs [.int .i64, .slice [.str, .int .i64], .bool] ps) : ∃ c : Con, ps = cP c ∧ con64 c := by
 obtain ⟨p, r, rfl, hp, hr⟩ := okCons h
 obtain ⟨p2, r2, rfl, hp2, hr2⟩ := okCons hr
 obtain ⟨p3, rfl, hp3⟩ := okOne hr2
 obtain ⟨k, rfl, hk⟩ := okInt hp
 obtain ⟨l, rfl, h1, h2⟩ := okMonos hp2
 obtain ⟨b, rfl⟩ := okBool hp3
 exact ⟨((k, l), b), rfl, hk, h1⟩
theorem okConsL {ps : List PC} (h : OkPs [.slice [.int .i64, .slice [.str, .int .i64], .bool]] ps) : ∃ l : List Con, ps = [pSl cP l] ∧ (∀ c ∈ l, con64 c) ∧ l.length ≤ maxLen := by
 obtain ⟨p, rfl, hp⟩ := okOne h
 obtain ⟨l, rfl, h1, h2⟩ := okRows cP con64 (fun r hr => okCon hr) hp
 exact ⟨l, rfl, h1, h2⟩
theorem okUint {k : IntKind} {p : PC} (h : OkP (.int k) p) : ∃ n, p = .val (.int k n) ∧ (Lit.int k n).wf = true := by
 cases h with
 | @int _ n h => exact ⟨n, rfl, h⟩
end Go.Proofs.Ytnddmjhpplopbaa
