/- Walks by the abstract machine: the reference's order of layer 9. -/
import Derived.Test.YtehjbfljenpfoaaV09c
set_option linter.unusedVariables false
set_option linter.unusedSimpArgs false
set_option maxRecDepth 20000
namespace Go.Proofs.Ytehjbfljenpfoaa
open Go.Abs Go.RowKit

end Go.Proofs.Ytehjbfljenpfoaa
