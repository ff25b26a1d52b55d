/- Plain laws: one step of reducing, in both forms; all of them. -/
import Derived.Test.YtbmjglgpckfpjaaEqPu17
set_option linter.unusedVariables false
set_option linter.unusedSimpArgs false
namespace Go.Proofs.YtB
open Go Go.RowKit Go.Proofs
theorem IsSch.G {a : Sch} (h : IsSch a) : ∀ q ∈ a.ps, Gq a.p q := fun q hq => ⟨h.nz hq, (h.lt hq).1, (h.lt hq).2.1, (h.lt hq).2.2⟩
end Go.Proofs.YtB
