/- Plain law: what FnExactStabiliserNumber computes is true. -/
import Derived.Test.YtbhaeajdabgnhaaSnPu49
import Derived.Test.YtbhaeajdabgnhaaSnG3
set_option linter.unusedVariables false
set_option linter.unusedSimpArgs false
namespace Go.Proofs.YtB
open Go Go.RowKit Go.Proofs
theorem exactStabiliserNumber_true (a : Sch) (ha : a.ps.length ≤ 9223372036854775807) : laws_FnExactStabiliserNumber a = some true := by
  unfold laws_FnExactStabiliserNumber
  rw [laws_szScheme_eq (by omega) (by omega) ha]
  simp only [Option.bind_some]
  by_cases h1 : (a.ps.length : Int) ≤ 1048576
  · rw [if_pos h1, dff (by omega)]
    simp only [Bool.false_eq_true, if_false]
    obtain ⟨g, e, s, ii⟩ := stabiliser_eq a (by omega)
    simp only [laws_toScheme_eq (show a.ps.length ≤ 1048576 by omega), Option.bind_some, s, ii]
    rw [laws_eqScheme_eq (by omega)]
    simp
  · rw [if_neg h1]
    rfl
end Go.Proofs.YtB
