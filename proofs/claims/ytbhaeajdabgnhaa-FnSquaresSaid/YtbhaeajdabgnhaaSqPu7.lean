/- Plain laws: what stays of a list of products when those with a factor 0 go. -/
import Derived.Test.YtbhaeajdabgnhaaSqPu6
set_option linter.unusedVariables false
set_option linter.unusedSimpArgs false
namespace Go.Proofs.YtB
open Go Go.RowKit Go.Proofs
def nz (q : Prod) : Bool := !(decide (q.1 = zForm) || decide (q.2.1 = zForm) || decide (q.2.2 = zForm))
end Go.Proofs.YtB
