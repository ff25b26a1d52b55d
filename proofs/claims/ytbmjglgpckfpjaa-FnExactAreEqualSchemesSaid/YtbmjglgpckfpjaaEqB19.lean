/- Words of this seat's own: function values with cells of their maker; a field of a struct in hand. -/
import Derived.Test.YtbmjglgpckfpjaaEqB18
set_option linter.unusedVariables false
set_option linter.unusedSimpArgs false
set_option linter.unusedSectionVars false
namespace Go.Proofs.YtB
open Go Go.RowKit
open Go.Proofs.YtbmjglgpckfpjaaW.PrintWords
variable {P : Program} {n : Nat} {a : Act} {L : List (Nat × Value)} {w w' w0 ws : World} {Q : Exit → Act → World → Prop} {ops : Array Oper} {rest : List Oper} {o : Oper}
variable {x y : Operand} {p q : Int} {T T' ty : TypeId} {pos : String} {af : Array Edge} {gd : Option (Nat × Bool)} {dd : Option Tmp} {ad : Addr} {k : Nat} {cs : List Value} {m : Nat}
variable {ρ ρ' ρ0 : Nat → Nat} {i j g e e' B : Nat} {v u : Value}
theorem Va.relab {t : TypeId} (h : Va ρ w j g t cs) (b : Nat) : Va (relab ρ j b) w b g t cs := ⟨h.blk, by unfold YtB.relab; rw [if_pos h.rho]⟩
theorem r_fieldc {S i : Nat} {fs : Array Field} {f : Field} (hS : P.underlying S = some (.struct fs)) (hi : fs[i]? = some f) (he : Ty P f.type 1 false) (hf : Fr n a L) (hx : ev L x = some (.agg cs.toArray)) (hv : cs[f.offset]? = some v) :
    (execOp a.eval ⟨dd, .field S x i, ty, pos, af, gd⟩).run P w = .ok (.value v) w := by
  simp [execOp, hf.ev hx, Instr.field, asAgg, run_underlying hS, hi, part, run_isAgg he, run_size he, hv]
end Go.Proofs.YtB
