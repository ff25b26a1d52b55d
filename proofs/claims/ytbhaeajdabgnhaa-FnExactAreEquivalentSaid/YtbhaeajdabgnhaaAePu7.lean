/- Plain laws: what stays of a list of products when those with a factor 0 go. -/
import Derived.Test.YtbhaeajdabgnhaaAePu6
import Derived.Test.YtbhaeajdabgnhaaAeG1
set_option linter.unusedVariables false
set_option linter.unusedSimpArgs false
namespace Go.Proofs.YtB
open Go Go.RowKit Go.Proofs
def nz (q : Prod) : Bool := !(decide (q.1 = zForm) || decide (q.2.1 = zForm) || decide (q.2.2 = zForm))
theorem hasZero_eq (q : Prod) : impl_hasZero q = some (!nz q) := by
  unfold impl_hasZero nz
  by_cases z1 : q.1 = zForm <;> by_cases z2 : q.2.1 = zForm <;> simp [z1, z2]
end Go.Proofs.YtB
