/- The range of a uint8 argument. -/
import Derived.Test.YtcbnnjadgkgheaaL51d
import Derived.Test.YtcbnnjadgkgheaaRow
set_option linter.unusedVariables false
set_option linter.unusedSimpArgs false
namespace Go.Proofs.Ytcbnnjadgkgheaa
open Go.RowKit
theorem rngU_of_wf {x : Int} (h : (Lit.int .u8 x).wf = true) : 0 ≤ x ∧ x ≤ 255 := by
  have h1 : IntKind.u8.min = 0 := rfl
  have h2 : IntKind.u8.max = 255 := rfl
  simp only [Lit.wf, Bool.and_eq_true, decide_eq_true_eq] at h
  omega
end Go.Proofs.Ytcbnnjadgkgheaa
