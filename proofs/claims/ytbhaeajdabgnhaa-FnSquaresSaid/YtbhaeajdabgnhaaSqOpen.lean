/- A law's scheme argument, opened: its numbers, and its slice of products as it reads. -/
import Derived.Test.YtbhaeajdabgnhaaSqT
import Derived.Test.YtbhaeajdabgnhaaSqBB1
set_option linter.unusedVariables false
set_option linter.unusedSimpArgs false
namespace Go.Proofs.YtB
open Go Go.RowKit Go.Proofs Go.ChangeShapes Go.WideShapes
variable {H : Type} {encd : TypeId × Value → H} {w : World} {base : Nat} {spare : Nat → Bool} {held : Bool}
set_option maxRecDepth 20000
theorem rd5 : Rd Try.prog 5 fU8 (fun _ => True) := Rd.u8 Try.underlying5
end Go.Proofs.YtB
