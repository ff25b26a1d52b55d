/- Plain laws: the program's and the reference's tests of schemes are the same. -/
import Derived.Test.YtbhaeajdabgnhaaSqPu2
import Derived.Test.YtbhaeajdabgnhaaSqG1
set_option linter.unusedVariables false
set_option linter.unusedSimpArgs false
namespace Go.Proofs.YtB
open Go Go.RowKit Go.Proofs
def sizeB (x : Int) : Bool := decide (1 ≤ x) && decide (x ≤ 3)
def primeB (p : Int) : Bool := decide (p = 2) || decide (p = 3) || decide (p = 5)
theorem prime_i (p : Int) : impl_isPrime p = some (primeB p) := by
  unfold impl_isPrime primeB
  by_cases h1 : p = 2 <;> by_cases h2 : p = 3 <;> simp [h1, h2]
theorem prime_s (p : Int) : spec_l01Prime p = some (primeB p) := by
  unfold spec_l01Prime primeB
  by_cases h1 : p = 2 <;> by_cases h2 : p = 3 <;> simp [h1, h2]
theorem in_s (x : Int) : spec_l01In x 1 3 = some (sizeB x) := by
  unfold spec_l01In sizeB
  by_cases h1 : 1 ≤ x <;> simp [h1]
end Go.Proofs.YtB
