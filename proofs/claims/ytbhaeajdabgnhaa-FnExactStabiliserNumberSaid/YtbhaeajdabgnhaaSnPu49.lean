/- Plain laws: StabiliserNumber and AreEquivalent in both forms. -/
import Derived.Test.YtbhaeajdabgnhaaSnPu48
import Derived.Test.YtbhaeajdabgnhaaSnG3
set_option linter.unusedVariables false
set_option linter.unusedSimpArgs false
namespace Go.Proofs.YtB
open Go Go.RowKit Go.Proofs
def smB (a : Sch) : Bool := decide (a.p = 2) && (decide (a.n < 3) && (decide (a.m < 3) && decide (a.k < 3)))
theorem small_s (a : Sch) : spec_l04Small a = some (smB a) := by
  unfold spec_l04Small smB
  by_cases h1 : a.p = 2
  · by_cases h2 : a.n < 3
    · by_cases h3 : a.m < 3
      · simp [h1, h2, h3]
      · simp [h1, h2, h3]
    · simp [h1, h2]
  · simp [h1]
theorem small_i (a : Sch) : impl_isSmall a = some (smB a) := by
  unfold impl_isSmall smB max3
  by_cases h1 : a.p = 2
  · rw [dtt h1]
    simp only [if_true, Option.bind_some, Bool.true_and]
    congr 1
    rw [Bool.eq_iff_iff]
    simp only [decide_eq_true_eq, Bool.and_eq_true]
    split <;> split <;> omega
  · rw [dff h1]; rfl
theorem smB_small {a : Sch} (hs : IsSch a) (h : smB a = true) : Small a a.n.toNat a.m.toNat a.k.toNat := by
  unfold smB at h
  simp only [Bool.and_eq_true, decide_eq_true_eq] at h
  have := hs.n
  have := hs.m
  have := hs.k
  exact ⟨hs, h.1, by omega, by omega, by omega, by omega, by omega, by omega⟩
theorem stabiliser_eq (a : Sch) (ha : a.ps.length ≤ 2097152) : ∃ g e, spec_StabiliserNumber a = some (g, e) ∧ impl_StabiliserNumber a = some (g, e) := by
  obtain ⟨h1, h2⟩ := scheme_eq3 a (by omega)
  unfold spec_StabiliserNumber impl_StabiliserNumber
  rw [h1, h2]
  simp only [Option.bind_some]
  cases hs : schemeB a with
  | false => exact ⟨0, 1, rfl, rfl⟩
  | true =>
    have hS := schemeB_is hs
    simp only [Bool.not_true, Bool.false_eq_true, if_false]
    rw [small_s, small_i]
    simp only [Option.bind_some]
    cases hm : smB a with
    | false => exact ⟨0, 2, rfl, rfl⟩
    | true =>
      have hl := hS.l
      obtain ⟨c, c1, c2, _⟩ := count_both (smB_small hS hm) (b := a) hl
      simp only [Bool.not_true, Bool.false_eq_true, if_false]
      rw [sorted_s a (by omega), c1]
      simp only [Option.bind_some]
      rw [c2]
      exact ⟨_, _, rfl, rfl⟩
end Go.Proofs.YtB
