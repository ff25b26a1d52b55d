/- Plain laws: inverses modulo p, leading numbers, normal products. -/
import Derived.Test.YtbmjglgpckfpjaaSsPu13
import Derived.Test.YtbmjglgpckfpjaaSsG1
set_option linter.unusedVariables false
set_option linter.unusedSimpArgs false
namespace Go.Proofs.YtB
open Go Go.RowKit Go.Proofs
/-- the number with which n makes 1 modulo p -/
def inv (p n : Int) : Int := if (1 * n) % p = 1 then 1 else if (2 * n) % p = 1 then 2 else if (3 * n) % p = 1 then 3 else 4
end Go.Proofs.YtB
