/- Plain laws: StabiliserNumber and AreEquivalent in both forms. -/
import Derived.Test.YtbhaeajdabgnhaaAePu48
import Derived.Test.YtbhaeajdabgnhaaAeG3
set_option linter.unusedVariables false
set_option linter.unusedSimpArgs false
namespace Go.Proofs.YtB
open Go Go.RowKit Go.Proofs
def likeB (a b : Sch) : Int := if schemeB a && schemeB b then (if a.p = b.p ∧ a.n = b.n ∧ a.m = b.m ∧ a.k = b.k then 0 else 2) else 1
theorem like_tail (a b : Sch) : (if (decide (a.p ≠ b.p)) = true then (some true) else (if (decide (a.n ≠ b.n)) = true then (some true) else (if (decide (a.m ≠ b.m)) = true then (some true) else (some (decide (a.k ≠ b.k)))))).bind (fun (s10 : Bool) => if s10 = true then (some (2 : Int)) else (some (0))) = some (if a.p = b.p ∧ a.n = b.n ∧ a.m = b.m ∧ a.k = b.k then 0 else 2) := by
  by_cases h1 : a.p = b.p <;> by_cases h2 : a.n = b.n <;> by_cases h3 : a.m = b.m <;> by_cases h4 : a.k = b.k <;> simp [h1, h2, h3, h4]
theorem areSchemes_i (a b : Sch) (ha : a.ps.length < 9223372036854775807) (hb : b.ps.length < 9223372036854775807) : impl_areSchemes [a, b] = some (schemeB a && schemeB b) := by
  unfold impl_areSchemes
  have e0 : impl_areSchemes_l1 [a, b] 0 = if schemeB a then some (.next 1) else some (.ret false) := by
    unfold impl_areSchemes_l1
    simp only [List.length_cons, List.length_nil, show decide ((0 : Int) < ((0 + 1 + 1 : Nat) : Int)) = true from rfl, if_true, show (0 ≤ (0 : Int) ∧ (0 : Int) < ((0 + 1 + 1 : Nat) : Int)) = True by simp, show gl zSch [a, b] 0 = a from rfl, (scheme_eq3 a ha).2, Option.bind_some]
    cases schemeB a <;> rfl
  have e1 : impl_areSchemes_l1 [a, b] 1 = if schemeB b then some (.next 2) else some (.ret false) := by
    unfold impl_areSchemes_l1
    simp only [List.length_cons, List.length_nil, show decide ((1 : Int) < ((0 + 1 + 1 : Nat) : Int)) = true from rfl, if_true, show (0 ≤ (1 : Int) ∧ (1 : Int) < ((0 + 1 + 1 : Nat) : Int)) = True by simp, show gl zSch [a, b] 1 = b from rfl, (scheme_eq3 b hb).2, Option.bind_some]
    cases schemeB b <;> rfl
  have e2 : impl_areSchemes_l1 [a, b] 2 = some (.stop 2) := by
    unfold impl_areSchemes_l1
    rfl
  cases h1 : schemeB a
  · rw [iter_ret (r := false) (by rw [e0, h1]; rfl)]; rfl
  · rw [iter_next (s' := 1) (by rw [e0, h1]; rfl)]
    cases h2 : schemeB b
    · rw [iter_ret (r := false) (by rw [e1, h2]; rfl)]; rfl
    · rw [iter_next (s' := 2) (by rw [e1, h2]; rfl), iter_stop e2]; rfl
theorem pair_i (a b : Sch) (ha : a.ps.length < 9223372036854775807) (hb : b.ps.length < 9223372036854775807) : impl_pairCode a b = some (likeB a b) := by
  unfold impl_pairCode likeB
  rw [areSchemes_i a b ha hb]
  simp only [Option.bind_some]
  cases schemeB a && schemeB b
  · rfl
  simp only [Bool.not_true, Bool.false_eq_true, if_false, if_true]
  exact like_tail a b
def smB (a : Sch) : Bool := decide (a.p = 2) && (decide (a.n < 3) && (decide (a.m < 3) && decide (a.k < 3)))
theorem small_s (a : Sch) : spec_l04Small a = some (smB a) := by
  unfold spec_l04Small smB
  by_cases h1 : a.p = 2
  · by_cases h2 : a.n < 3
    · by_cases h3 : a.m < 3
      · simp [h1, h2, h3]
      · simp [h1, h2, h3]
    · simp [h1, h2]
  · simp [h1]
theorem small_i (a : Sch) : impl_isSmall a = some (smB a) := by
  unfold impl_isSmall smB max3
  by_cases h1 : a.p = 2
  · rw [dtt h1]
    simp only [if_true, Option.bind_some, Bool.true_and]
    congr 1
    rw [Bool.eq_iff_iff]
    simp only [decide_eq_true_eq, Bool.and_eq_true]
    split <;> split <;> omega
  · rw [dff h1]; rfl
theorem smB_small {a : Sch} (hs : IsSch a) (h : smB a = true) : Small a a.n.toNat a.m.toNat a.k.toNat := by
  unfold smB at h
  simp only [Bool.and_eq_true, decide_eq_true_eq] at h
  have := hs.n
  have := hs.m
  have := hs.k
  exact ⟨hs, h.1, by omega, by omega, by omega, by omega, by omega, by omega⟩
theorem equivalent_eq (a b : Sch) (ha : a.ps.length ≤ 2097152) (hb : b.ps.length ≤ 2097152) : ∃ g e, spec_AreEquivalent a b = some (g, e) ∧ impl_AreEquivalent a b = some (g, e) := by
  obtain ⟨h1, h2⟩ := scheme_eq3 a (by omega)
  obtain ⟨h3, h4⟩ := scheme_eq3 b (by omega)
  unfold spec_AreEquivalent impl_AreEquivalent
  rw [pair_i a b (by omega) (by omega), h1, h3]
  simp only [Option.bind_some]
  unfold likeB
  cases hs : schemeB a with
  | false => exact ⟨false, 1, rfl, rfl⟩
  | true =>
    cases ht : schemeB b with
    | false => exact ⟨false, 1, rfl, rfl⟩
    | true =>
      have hS := schemeB_is hs
      have hT := schemeB_is ht
      simp only [Bool.not_true, Bool.false_eq_true, if_false, Option.bind_some, Bool.and_self, if_true]
      rw [small_s, small_s, small_i]
      simp only [Option.bind_some]
      have two : (2 : Int) ≠ 0 := by decide
      cases hm : smB a with
      | false =>
        by_cases hq : a.p = b.p ∧ a.n = b.n ∧ a.m = b.m ∧ a.k = b.k
        · rw [if_pos hq]
          exact ⟨false, 2, rfl, rfl⟩
        · rw [if_neg hq]
          exact ⟨false, 2, rfl, rfl⟩
      | true =>
        by_cases hq : a.p = b.p ∧ a.n = b.n ∧ a.m = b.m ∧ a.k = b.k
        · rw [if_pos hq]
          have hm2 : smB b = true := by
            unfold smB at hm ⊢
            rw [← hq.1, ← hq.2.1, ← hq.2.2.1, ← hq.2.2.2]; exact hm
          have hl := hT.l
          obtain ⟨c, c1, c2, c3⟩ := count_both (smB_small hS hm) (b := b) hl
          simp only [hm2, Bool.not_true, Bool.false_eq_true, if_false, ne_eq, not_true_eq_false, decide_false, Option.bind_some]
          rw [dff (show ¬ ¬ a.n = b.n from fun h => h hq.2.1), dff (show ¬ ¬ a.m = b.m from fun h => h hq.2.2.1), dff (show ¬ ¬ a.k = b.k from fun h => h hq.2.2.2)]
          simp only [Bool.false_eq_true, if_false, Option.bind_some]
          rw [c1]
          simp only [Option.bind_some]
          by_cases hlen : a.ps.length = b.ps.length
          · rw [dff (show ¬ ¬ (a.ps.length : Int) = (b.ps.length : Int) from fun h => h (by omega))]
            simp only [Bool.false_eq_true, if_false]
            rw [sorted_s b (by omega)]
            simp only [Option.bind_some]
            rw [c2]
            exact ⟨_, _, rfl, rfl⟩
          · rw [dtt (show ¬ (a.ps.length : Int) = (b.ps.length : Int) by omega), if_pos rfl, c3 hlen]
            exact ⟨false, 0, rfl, rfl⟩
        · rw [if_neg hq]
          refine ⟨false, 2, ?_, rfl⟩
          cases hm2 : smB b with
          | false => rfl
          | true =>
            have hp : a.p = b.p := by
              unfold smB at hm hm2
              simp only [Bool.and_eq_true, decide_eq_true_eq] at hm hm2
              omega
            have hx : ¬ (a.n = b.n ∧ a.m = b.m ∧ a.k = b.k) := fun h => hq ⟨hp, h⟩
            by_cases g1 : a.n = b.n
            · by_cases g2 : a.m = b.m
              · by_cases g3 : a.k = b.k
                · exact absurd ⟨g1, g2, g3⟩ hx
                · simp [g1, g2, g3]
              · simp [g1, g2]
            · simp [g1]
end Go.Proofs.YtB
