/- Plain law: what FnExactProfileOf computes is true. -/
import Derived.Test.YtbhaeajdabgnhaaPoPu40
import Derived.Test.YtbhaeajdabgnhaaPoG3
set_option linter.unusedVariables false
set_option linter.unusedSimpArgs false
namespace Go.Proofs.YtB
open Go Go.RowKit Go.Proofs
theorem exactProfileOf_true (a : Sch) (ha : a.ps.length ≤ 9223372036854775807) : laws_FnExactProfileOf a = some true := by
  unfold laws_FnExactProfileOf
  rw [laws_szScheme_eq (by omega) (by omega) ha]
  simp only [Option.bind_some]
  by_cases h1 : (a.ps.length : Int) ≤ 1048576
  · rw [if_pos h1, dff (by omega)]
    simp only [Bool.false_eq_true, if_false]
    obtain ⟨L, e, s, ii, hl, h3⟩ := profile_eq a (by omega)
    simp only [laws_toScheme_eq (show a.ps.length ≤ 1048576 by omega), Option.bind_some, s, ii, gi_range, eqGrid hl h3, Bool.not_true, Bool.false_eq_true, if_false, ne_eq, not_true_eq_false, decide_false]
    rw [laws_eqScheme_eq (by omega), laws_markScheme_eq (by omega) (by omega) (by omega), markGrid hl h3]
    simp only [Option.bind_some, decide_true, Bool.not_true, Bool.false_eq_true, if_false]
    have hg : gi (List.range L.length) (marksG L.length) = marksG L.length := by
      have := gi_range (marksG L.length)
      rwa [marksG_len] at this
    rw [dff (by omega), hg, heldGrid hl]
    simp only [Option.bind_some, Bool.false_eq_true, if_false]
    rw [dff (by omega)]
    simp
  · rw [if_neg h1]
    rfl
end Go.Proofs.YtB
