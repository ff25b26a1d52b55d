/- Plain law: what FnExactAreEquivalent computes is true. -/
import Derived.Test.YtbhaeajdabgnhaaAePu49
import Derived.Test.YtbhaeajdabgnhaaAeG4
set_option linter.unusedVariables false
set_option linter.unusedSimpArgs false
namespace Go.Proofs.YtB
open Go Go.RowKit Go.Proofs
theorem exactAreEquivalent_true (a b : Sch) (ha : a.ps.length ≤ 9223372036854775807) (hb : b.ps.length ≤ 9223372036854775807) : laws_FnExactAreEquivalent a b = some true := by
  unfold laws_FnExactAreEquivalent
  rw [laws_szScheme_eq (by omega) (by omega) ha]
  simp only [Option.bind_some]
  by_cases h1 : (a.ps.length : Int) ≤ 1048576
  · rw [if_pos h1, dff (by omega)]
    simp only [Bool.false_eq_true, if_false]
    rw [laws_szScheme_eq (by omega) (by omega) hb]
    simp only [Option.bind_some]
    by_cases h2 : (b.ps.length : Int) ≤ 1048576 - (a.ps.length : Int)
    · rw [if_pos h2, dff (by omega)]
      simp only [Bool.false_eq_true, if_false]
      obtain ⟨g, e, s, ii⟩ := equivalent_eq a b (by omega) (by omega)
      simp only [laws_toScheme_eq (show a.ps.length ≤ 1048576 by omega), laws_toScheme_eq (show b.ps.length ≤ 1048576 by omega), Option.bind_some, s, ii]
      rw [laws_eqScheme_eq (by omega), laws_eqScheme_eq (by omega)]
      simp
    · rw [if_neg h2]
      rfl
  · rw [if_neg h1]
    rfl
end Go.Proofs.YtB
