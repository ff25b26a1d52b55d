/- Plain law: what FnExactJoinInner computes is true. -/
import Derived.Test.YtaaghemmkbgldaaJiPu5
import Derived.Test.YtaaghemmkbgldaaJiG3
set_option linter.unusedVariables false
set_option linter.unusedSimpArgs false
namespace Go.Proofs.YtB
open Go Go.RowKit Go.Proofs

theorem joinInner_true (a c : Sch) (ha : a.ps.length ≤ 9223372036854775807) (hc : c.ps.length ≤ 9223372036854775807) : laws_FnExactJoinInner a c = some true := by
  unfold laws_FnExactJoinInner
  rw [laws_szScheme_eq (by omega) (by omega) ha]
  simp only [Option.bind_some]
  by_cases h1 : (a.ps.length : Int) ≤ 1048576
  · rw [if_pos h1, dff (by omega)]
    simp only [Bool.false_eq_true, if_false]
    rw [laws_szScheme_eq (by omega) (by omega) hc]
    simp only [Option.bind_some]
    by_cases h2 : (c.ps.length : Int) ≤ 1048576 - a.ps.length
    · rw [if_pos h2, dff (by omega)]
      simp only [Bool.false_eq_true, if_false]
      obtain ⟨g, e, s, i, hg⟩ := joined_1 a c (by omega) (by omega)
      have hs : spec_JoinInner a c = some (g, e) := by
        unfold spec_JoinInner
        rw [s]; rfl
      have hi : impl_JoinInner a c = some (g, e) := by
        unfold impl_JoinInner
        rw [i]; rfl
      rw [laws_toScheme_eq (by omega), laws_toScheme_eq (by omega)]
      simp only [Option.bind_some]
      rw [hs]
      simp only [Option.bind_some]
      rw [hi]
      simp only [Option.bind_some]
      rw [laws_eqScheme_eq (by omega), laws_eqScheme_eq (by omega), laws_eqScheme_eq (by omega), laws_markScheme_eq (by omega) (by omega) (by omega)]
      simp only [Option.bind_some, decide_true, Bool.not_true, Bool.false_eq_true, if_false, ne_eq, not_true_eq_false, decide_false]
      rw [laws_markScheme_eq (by omega) (by omega) (by omega)]
      simp only [Option.bind_some]
      rw [dff (by omega), laws_markScheme_eq (by omega) (by omega) (by omega)]
      simp only [Bool.false_eq_true, if_false, Option.bind_some]
      rw [laws_heldScheme_eq (n := g.ps.length) rfl (by omega) (by omega) (by omega)]
      simp only [Option.bind_some]
      rw [dff (by omega)]
      simp
    · rw [if_neg h2]
      rfl
  · rw [if_neg h1]
    rfl
end Go.Proofs.YtB
