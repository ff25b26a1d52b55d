/- Plain laws: sorted schemes, in both forms. -/
import Derived.Test.YtbhaeajdabgnhaaPoPu30
import Derived.Test.YtbhaeajdabgnhaaPoG2
set_option linter.unusedVariables false
set_option linter.unusedSimpArgs false
namespace Go.Proofs.YtB
open Go Go.RowKit Go.Proofs
def leP (x y : Prod) : Bool := !(lx (key y) (key x))
def pos (x : Prod) (L : List Prod) : Nat := (L.takeWhile fun y => !(lx (key x) (key y))).length
def srt (L : List Prod) : List Prod := L.mergeSort leP
end Go.Proofs.YtB
