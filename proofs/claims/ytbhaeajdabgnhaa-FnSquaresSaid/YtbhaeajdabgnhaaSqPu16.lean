/- Plain laws: inverses modulo p, leading numbers, normal products. -/
import Derived.Test.YtbhaeajdabgnhaaSqPu11
import Derived.Test.YtbhaeajdabgnhaaSqG1
set_option linter.unusedVariables false
set_option linter.unusedSimpArgs false
namespace Go.Proofs.YtB
open Go Go.RowKit Go.Proofs
def pr (p : Int) : Prop := p = 2 ∨ p = 3 ∨ p = 5
/-- the number with which n makes 1 modulo p -/
def inv (p n : Int) : Int := if (1 * n) % p = 1 then 1 else if (2 * n) % p = 1 then 2 else if (3 * n) % p = 1 then 3 else 4
theorem pn_cases {p n : Int} (hp : pr p) (h0 : 0 < n) (h1 : n < p) : (p = 2 ∧ n = 1) ∨ (p = 3 ∧ n = 1) ∨ (p = 3 ∧ n = 2) ∨ (p = 5 ∧ n = 1) ∨ (p = 5 ∧ n = 2) ∨ (p = 5 ∧ n = 3) ∨ (p = 5 ∧ n = 4) := by
  unfold pr at hp
  omega
theorem inv_range {p n : Int} (hp : pr p) (h0 : 0 < n) (h1 : n < p) : 0 < inv p n ∧ inv p n < p ∧ (inv p n * n) % p = 1 := by
  rcases pn_cases hp h0 h1 with ⟨rfl, rfl⟩ | ⟨rfl, rfl⟩ | ⟨rfl, rfl⟩ | ⟨rfl, rfl⟩ | ⟨rfl, rfl⟩ | ⟨rfl, rfl⟩ | ⟨rfl, rfl⟩ <;> decide
theorem w64_lit {x : Int} (h0 : -1000 ≤ x) (h1 : x ≤ 1000) : w64 x = x := w64_id (by omega) (by omega)
theorem inverse_i {p n : Int} (hp : pr p) (h0 : 0 < n) (h1 : n < p) : impl_inverse p n = some (inv p n) := by
  have step : ∀ s : Int, 1 ≤ s → s ≤ 4 → impl_inverse_l1 p n s = if (s * n) % p = 1 then some (.ret s) else some (.next (s + 1)) := by
    intro s hs0 hs1
    have hsn : 0 ≤ s * n ∧ s * n ≤ 20 := by
      unfold pr at hp
      have h2 : s * n ≤ 4 * n := Int.mul_le_mul_of_nonneg_right hs1 (by omega)
      have h3 : 0 ≤ s * n := Int.mul_nonneg (by omega) (by omega)
      omega
    unfold impl_inverse_l1
    rw [if_pos (by unfold pr at hp; omega), w64_lit (by omega) (by omega), Int.tmod_eq_emod_of_nonneg hsn.1, w64_lit (by omega) (by omega)]
    by_cases h : (s * n) % p = 1
    · rw [dtt h, if_pos h]; rfl
    · rw [dff h, if_neg h]; rfl
  unfold impl_inverse inv
  by_cases a1 : (1 * n) % p = 1
  · rw [iter_ret (r := 1) (by rw [step 1 (by omega) (by omega), if_pos a1]), if_pos a1]; rfl
  rw [iter_next (s' := 2) (by rw [step 1 (by omega) (by omega), if_neg a1]; rfl), if_neg a1]
  by_cases a2 : (2 * n) % p = 1
  · rw [iter_ret (r := 2) (by rw [step 2 (by omega) (by omega), if_pos a2]), if_pos a2]; rfl
  rw [iter_next (s' := 3) (by rw [step 2 (by omega) (by omega), if_neg a2]; rfl), if_neg a2]
  by_cases a3 : (3 * n) % p = 1
  · rw [iter_ret (r := 3) (by rw [step 3 (by omega) (by omega), if_pos a3]), if_pos a3]; rfl
  rw [iter_next (s' := 4) (by rw [step 3 (by omega) (by omega), if_neg a3]; rfl), if_neg a3]
  have a4 : (4 * n) % p = 1 := by
    rcases pn_cases hp h0 h1 with ⟨rfl, rfl⟩ | ⟨rfl, rfl⟩ | ⟨rfl, rfl⟩ | ⟨rfl, rfl⟩ | ⟨rfl, rfl⟩ | ⟨rfl, rfl⟩ | ⟨rfl, rfl⟩ <;> simp_all
  rw [iter_ret (r := 4) (by rw [step 4 (by omega) (by omega), if_pos a4])]; rfl
theorem inverse_s {p n : Int} (hp : pr p) (h0 : 0 < n) (h1 : n < p) : spec_l01Inverse p n = some (inv p n) := by
  have step : ∀ s : Int, 1 ≤ s → s < p → spec_l01Inverse_l1 p n s = if (s * n) % p = 1 then some (.ret s) else some (.next (s + 1)) := by
    intro s hs0 hs1
    have hsn : 0 ≤ s * n ∧ s * n ≤ 20 := by
      unfold pr at hp
      have h2 : s * n ≤ 4 * n := Int.mul_le_mul_of_nonneg_right (by omega) (by omega)
      have h3 : 0 ≤ s * n := Int.mul_nonneg (by omega) (by omega)
      omega
    unfold spec_l01Inverse_l1
    rw [dtt hs1, if_pos rfl, mod_eq (by omega) (by unfold pr at hp; omega) (by omega) (by unfold pr at hp; omega)]
    simp only [Option.bind_some]
    rw [if_pos (by unfold pr at hp; omega), Int.emod_eq_of_lt (by omega) h1, w64_lit (by omega) (by omega), Int.tmod_eq_emod_of_nonneg hsn.1, w64_lit (by omega) (by unfold pr at hp; omega)]
    by_cases h : (s * n) % p = 1
    · rw [dtt h, if_pos h]; rfl
    · rw [dff h, if_neg h]; rfl
  unfold spec_l01Inverse
  rcases pn_cases hp h0 h1 with ⟨rfl, rfl⟩ | ⟨rfl, rfl⟩ | ⟨rfl, rfl⟩ | ⟨rfl, rfl⟩ | ⟨rfl, rfl⟩ | ⟨rfl, rfl⟩ | ⟨rfl, rfl⟩
  · rw [iter_ret (r := 1) (by rw [step 1 (by omega) (by omega)]; rfl)]; rfl
  · rw [iter_ret (r := 1) (by rw [step 1 (by omega) (by omega)]; rfl)]; rfl
  · rw [iter_next (s' := 2) (by rw [step 1 (by omega) (by omega)]; rfl), iter_ret (r := 2) (by rw [step 2 (by omega) (by omega)]; rfl)]; rfl
  · rw [iter_ret (r := 1) (by rw [step 1 (by omega) (by omega)]; rfl)]; rfl
  · rw [iter_next (s' := 2) (by rw [step 1 (by omega) (by omega)]; rfl), iter_next (s' := 3) (by rw [step 2 (by omega) (by omega)]; rfl), iter_ret (r := 3) (by rw [step 3 (by omega) (by omega)]; rfl)]; rfl
  · rw [iter_next (s' := 2) (by rw [step 1 (by omega) (by omega)]; rfl), iter_ret (r := 2) (by rw [step 2 (by omega) (by omega)]; rfl)]; rfl
  · rw [iter_next (s' := 2) (by rw [step 1 (by omega) (by omega)]; rfl), iter_next (s' := 3) (by rw [step 2 (by omega) (by omega)]; rfl), iter_next (s' := 4) (by rw [step 3 (by omega) (by omega)]; rfl), iter_ret (r := 4) (by rw [step 4 (by omega) (by omega)]; rfl)]; rfl

theorem pr_le {p : Int} (hp : pr p) : 0 < p ∧ p ≤ 255 := by unfold pr at hp; omega
end Go.Proofs.YtB
