/- Plain law: what FnExactScaledScheme computes is true. -/
import Derived.Test.YtbmjglgpckfpjaaScPu32
import Derived.Test.YtbmjglgpckfpjaaScG2
set_option linter.unusedVariables false
set_option linter.unusedSimpArgs false
namespace Go.Proofs.YtB
open Go Go.RowKit Go.Proofs
theorem exactScaledScheme_true (a : Sch) (ha : a.ps.length ≤ 9223372036854775807)  : laws_FnExactScaledScheme a = some true := by
  unfold laws_FnExactScaledScheme
  rw [laws_szScheme_eq (by omega) (by omega) ha]
  simp only [Option.bind_some]
  by_cases h1 : (a.ps.length : Int) ≤ 1048576
  · rw [if_pos h1, dff (by omega)]
    simp only [Bool.false_eq_true, if_false]
    obtain ⟨g, e, s, ii, hg⟩ := scaledScheme_eq a (by omega)
    simp only [laws_toScheme_eq (show a.ps.length ≤ 1048576 by omega), laws_toForm_eq, Option.bind_some, s, ii]
    rw [laws_eqScheme_eq (by omega), laws_eqScheme_eq (by omega), laws_markScheme_eq (by omega) (by omega) (by omega)]
    simp only [Option.bind_some, decide_true, Bool.not_true, Bool.false_eq_true, if_false, ne_eq, not_true_eq_false, decide_false]
    rw [dff (by omega), laws_markScheme_eq (by omega) (by omega) (by omega)]
    simp only [Bool.false_eq_true, if_false, Option.bind_some]
    rw [laws_heldScheme_eq (n := g.ps.length) rfl (by omega) (by omega) (by omega)]
    simp only [Option.bind_some]
    rw [dff (by omega)]
    simp
  · rw [if_neg h1]
    rfl
end Go.Proofs.YtB
