/- Plain laws: a flip's two forms are the same. -/
import Derived.Test.YtbhaeajdabgnhaaAePu7
set_option linter.unusedVariables false
set_option linter.unusedSimpArgs false
namespace Go.Proofs.YtB
open Go Go.RowKit Go.Proofs
theorem in3_0 : (0 ≤ (0 : Int) ∧ (0 : Int) < 3) = True := by decide
theorem in3_1 : (0 ≤ (1 : Int) ∧ (1 : Int) < 3) = True := by decide
theorem in3_2 : (0 ≤ (2 : Int) ∧ (2 : Int) < 3) = True := by decide
end Go.Proofs.YtB
