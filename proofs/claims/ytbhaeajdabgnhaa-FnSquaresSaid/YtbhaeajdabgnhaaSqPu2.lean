/- Plain laws: marks are laid, and are found again. -/
import Derived.Test.YtbhaeajdabgnhaaSqPu1
set_option linter.unusedVariables false
set_option linter.unusedSimpArgs false
namespace Go.Proofs.YtB
open Go Go.RowKit Go.Proofs
def mkF (k : Int) : Form := Vector.ofFn fun t : Fin 9 => u8 (k + t.1)
def part (v : Form) (k : Int) (j : Nat) : Form := Vector.ofFn fun t : Fin 9 => if t.1 < j then u8 (k + t.1) else v[t.1]
/-- the marks of n products, from k on -/
def mark1 (k : Int) (i : Nat) : Prod := (mkF (k + 27 * i), mkF (k + 27 * i + 9), mkF (k + 27 * i + 18))
def marks (k : Int) (n : Nat) : List Prod := (List.range n).map (mark1 k)
end Go.Proofs.YtB
