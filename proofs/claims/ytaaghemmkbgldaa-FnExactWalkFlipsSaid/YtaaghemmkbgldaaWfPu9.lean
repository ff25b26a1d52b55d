/- Plain laws: PlusMove's two forms are the same. -/
import Derived.Test.YtaaghemmkbgldaaWfPu8
import Derived.Test.YtaaghemmkbgldaaWfG2
import Derived.Test.YtaaghemmkbgldaaWfG1
set_option linter.unusedVariables false
set_option linter.unusedSimpArgs false
namespace Go.Proofs.YtB
open Go Go.RowKit Go.Proofs

theorem primeB_pos {p : Int} (h : primeB p = true) : 0 < p ∧ p ≤ 5 := by
  unfold primeB at h
  simp only [Bool.or_eq_true, decide_eq_true_eq] at h
  omega
/-- what both call a scheme: with its prime -/
theorem scheme_eq2 (a : Sch) (hl : a.ps.length < 9223372036854775807) : ∃ b, spec_l01Is a = some b ∧ impl_IsScheme a = some b ∧ (b = true → (0 < a.p ∧ a.p ≤ 5) ∧ a.ps.length ≤ 30) := by
  obtain ⟨b, h1, h2, h3⟩ := scheme_eq a hl
  refine ⟨b, h1, h2, fun hb => ⟨?_, (h3 hb).2.2.2⟩⟩
  subst hb
  unfold impl_IsScheme at h2
  rw [prime_i] at h2
  simp only [Option.bind_some] at h2
  cases hp : primeB a.p
  · rw [hp] at h2
    simp at h2
  · exact primeB_pos hp
theorem clone_eq (L : List Prod) (h : L.length ≤ 1000) : slices_Clone_76 L = some L := by
  unfold slices_Clone_76
  rw [if_pos (by simp only [List.length_nil]; omega), List.nil_append]
theorem plus_eq (a : Sch) (i k : Int) (ha : a.ps.length ≤ 2097152) : ∃ g e, spec_PlusMove a i k = some (g, e) ∧ impl_PlusMove a i k = some (g, e) ∧ g.ps.length ≤ 60 := by
  obtain ⟨x, sx, ix, fx⟩ := scheme_eq2 a (by omega)
  unfold spec_PlusMove impl_PlusMove
  rw [sx, ix]
  simp only [Option.bind_some]
  cases x
  · exact ⟨_, _, rfl, rfl, by simp⟩
  obtain ⟨hp, hl⟩ := fx rfl
  simp only [Bool.not_true, Bool.false_eq_true, if_false]
  rw [nums_s a (by omega) _ (by simp), nums_i a _ (by simp)]
  simp only [Option.bind_some]
  cases hb : [i, k].all (inB a)
  · exact ⟨_, _, rfl, rfl, by simp⟩
  simp only [List.all_cons, List.all_nil, Bool.and_true, Bool.and_eq_true, inB, decide_eq_true_eq] at hb
  obtain ⟨⟨i0, i1⟩, k0, k1⟩ := hb
  simp only [Bool.not_true, Bool.false_eq_true, if_false]
  by_cases hik : i = k
  · rw [dtt hik]
    exact ⟨_, _, rfl, rfl, by simp⟩
  rw [dff hik]
  simp only [Bool.false_eq_true, if_false]
  by_cases h30 : (a.ps.length : Int) = 30
  · rw [dtt h30]
    exact ⟨_, _, rfl, rfl, by simp⟩
  rw [dff h30, clone_eq _ (by omega)]
  simp only [Bool.false_eq_true, if_false, Option.bind_some, List.nil_append]
  have e1 : w64 (a.p - 1) = a.p + (-1) := by rw [w64_id (by omega) (by omega)]; omega
  rw [if_pos (by simp only [List.length_nil]; omega), if_pos (show 0 ≤ i ∧ i < (a.ps.length : Int) from ⟨i0, i1⟩), if_pos (show 0 ≤ k ∧ k < (a.ps.length : Int) from ⟨k0, k1⟩), if_pos (show 0 ≤ i ∧ i < (a.ps.length : Int) from ⟨i0, i1⟩), if_pos (show 0 ≤ k ∧ k < (a.ps.length : Int) from ⟨k0, k1⟩)]
  rw [spec_add_eq _ _ hp.1 (by omega) (by omega) (by omega), spec_add_eq _ _ hp.1 (by omega) (by omega) (by omega), spec_add_eq _ _ hp.1 (by omega) (by omega) (by omega), e1, sum_eq _ _ hp.1 (by omega) (by omega) (by omega), sum_eq _ _ hp.1 (by omega) (by omega) (by omega), sum_eq _ _ hp.1 (by omega) (by omega) (by omega), addF_shift, addF_shift]
  unfold spec_l03With impl_with
  rw [show decide ((0 : Int) = 0) = true from rfl, show decide ((1 : Int) = 0) = false from rfl, show decide ((1 : Int) = 1) = true from rfl]
  simp only [Option.bind_some, if_true, Bool.false_eq_true, if_false]
  rw [if_pos ⟨k0, by rw [List.length_set]; exact k1⟩, if_pos (by simp only [List.length_set, List.length_singleton]; omega), if_pos ⟨k0, by rw [List.length_set]; exact k1⟩, if_pos (by simp only [List.length_set, List.length_singleton]; omega), told_eq _ _ (by simp only [List.length_append, List.length_set, List.length_singleton]; omega), kept_eq _ (by simp only [List.length_append, List.length_set, List.length_singleton]; omega)]
  simp only [Option.bind_some]
  refine ⟨_, _, rfl, rfl, ?_⟩
  refine Nat.le_trans (List.length_filter_le _ _) ?_
  simp only [List.length_append, List.length_set, List.length_singleton]
  omega
end Go.Proofs.YtB
