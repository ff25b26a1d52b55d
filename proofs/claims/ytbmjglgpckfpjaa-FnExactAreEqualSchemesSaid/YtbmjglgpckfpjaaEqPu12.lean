/- Plain laws: a product split, in both forms. -/
import Derived.Test.YtbmjglgpckfpjaaEqPu11
set_option linter.unusedVariables false
set_option linter.unusedSimpArgs false
namespace Go.Proofs.YtB
open Go Go.RowKit Go.Proofs
theorem u8_nat {x : Int} (h0 : 0 ≤ x) (h1 : x < 256) : ((u8 x).toNat : Int) = x := by
  rw [u8_wrap]
  simp [IntKind.wrap, IntKind.signed, IntKind.bits]
  omega
theorem addF_get (p : Int) (f g : Form) (t : Int) {j : Nat} (hj : j < 9) : (addF p f g t)[j] = u8 (((f[j].toNat : Int) + t * (g[j].toNat : Int)) % p) := by simp [addF, addTo, hj]
theorem addF_nat {p : Int} (f g : Form) (t : Int) (hp : 0 < p) (hp2 : p ≤ 255) {j : Nat} (hj : j < 9) : (((addF p f g t)[j]).toNat : Int) = ((f[j].toNat : Int) + t * (g[j].toNat : Int)) % p := by
  have h1 := Int.emod_nonneg ((f[j].toNat : Int) + t * (g[j].toNat : Int)) (show p ≠ 0 by omega)
  have h2 := Int.emod_lt_of_pos ((f[j].toNat : Int) + t * (g[j].toNat : Int)) hp
  rw [addF_get _ _ _ _ hj, u8_nat h1 (by omega)]
theorem nz_iff {q : Prod} : nz q = true ↔ q.1 ≠ zForm ∧ q.2.1 ≠ zForm ∧ q.2.2 ≠ zForm := by
  unfold nz
  simp only [Bool.not_eq_true', Bool.or_eq_false_iff, decide_eq_false_iff_not]
  constructor
  · rintro ⟨⟨h1, h2⟩, h3⟩; exact ⟨h1, h2, h3⟩
  · rintro ⟨h1, h2, h3⟩; exact ⟨⟨h1, h2⟩, h3⟩
end Go.Proofs.YtB
