/- Plain law: what FnExactWalkFlips computes is true. -/
import Derived.Test.YtaaghemmkbgldaaWfPu14
import Derived.Test.YtaaghemmkbgldaaWfPu15
import Derived.Test.YtaaghemmkbgldaaWfG3
set_option linter.unusedVariables false
set_option linter.unusedSimpArgs false
namespace Go.Proofs.YtB
open Go Go.RowKit Go.Proofs

theorem walkFlips_true (a : Sch) (l : List Int) (ha : a.ps.length ≤ 9223372036854775807) (hb : l.length ≤ 9223372036854775807) : laws_FnExactWalkFlips a l = some true := by
  unfold laws_FnExactWalkFlips
  by_cases h0 : (1048576 : Int) < l.length
  · rw [dtt h0]; rfl
  rw [dff h0]
  simp only [Bool.false_eq_true, if_false]
  rw [laws_szScheme_eq (by omega) (by omega) ha]
  simp only [Option.bind_some]
  by_cases h1 : (a.ps.length : Int) ≤ 1048576
  · rw [if_pos h1, dff (by omega)]
    simp only [Bool.false_eq_true, if_false]
    obtain ⟨g, e, s, ii, hg⟩ := walk_eq a l (by omega)
    simp only [laws_toScheme_eq (show a.ps.length ≤ 1048576 by omega), toInts_eq (show l.length ≤ 1048576 by omega), Option.bind_some, s, ii]
    rw [laws_eqScheme_eq (by omega), laws_eqScheme_eq (by omega), laws_markScheme_eq (by omega) (by omega) (by omega), eqInts_eq (by omega)]
    simp only [Option.bind_some, decide_true, Bool.not_true, Bool.false_eq_true, if_false, ne_eq, not_true_eq_false, decide_false]
    rw [markInts_eq (by omega) (by omega) (by omega)]
    simp only [Option.bind_some]
    rw [dff (by omega), laws_markScheme_eq (by omega) (by omega) (by omega)]
    simp only [Bool.false_eq_true, if_false, Option.bind_some]
    rw [laws_heldScheme_eq (n := g.ps.length) rfl (by omega) (by omega) (by omega)]
    simp only [Option.bind_some]
    rw [dff (by omega)]
    simp
  · rw [if_neg h1]
    rfl
end Go.Proofs.YtB
