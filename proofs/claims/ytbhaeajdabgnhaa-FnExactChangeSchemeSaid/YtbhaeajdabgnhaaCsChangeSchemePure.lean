/- Plain law: what FnExactChangeScheme computes is true. -/
import Derived.Test.YtbhaeajdabgnhaaCsPu46
import Derived.Test.YtbhaeajdabgnhaaCsG4
set_option linter.unusedVariables false
set_option linter.unusedSimpArgs false
namespace Go.Proofs.YtB
open Go Go.RowKit Go.Proofs
theorem exactChangeScheme_true (a : Sch) (L1 L2 L3 : List (List Int)) (ha : a.ps.length ≤ 9223372036854775807) (k1 : L1.length ≤ 9223372036854775807 ∧ ∀ x ∈ L1, x.length ≤ 9223372036854775807) (k2 : L2.length ≤ 9223372036854775807 ∧ ∀ x ∈ L2, x.length ≤ 9223372036854775807) (k3 : L3.length ≤ 9223372036854775807 ∧ ∀ x ∈ L3, x.length ≤ 9223372036854775807) : laws_FnExactChangeScheme a L1 L2 L3 = some true := by
  unfold laws_FnExactChangeScheme
  rw [laws_szScheme_eq (by omega) (by omega) ha]
  simp only [Option.bind_some]
  by_cases h0 : (a.ps.length : Int) ≤ 1048576
  case neg => rw [if_neg h0]; rfl
  rw [if_pos h0, dff (by omega)]
  simp only [Bool.false_eq_true, if_false]
  rw [szG_eq (by omega) (by omega) k1.1 k1.2]
  simp only [Option.bind_some]
  by_cases h1 : (szG L1 : Int) ≤ 1048576 - (a.ps.length : Int)
  case neg => rw [if_neg h1]; rfl
  rw [if_pos h1, dff (by omega)]
  simp only [Bool.false_eq_true, if_false]
  rw [szG_eq (by omega) (by omega) k2.1 k2.2]
  simp only [Option.bind_some]
  by_cases h2 : (szG L2 : Int) ≤ 1048576 - (a.ps.length : Int) - (szG L1 : Int)
  case neg => rw [if_neg h2]; rfl
  rw [if_pos h2, dff (by omega)]
  simp only [Bool.false_eq_true, if_false]
  rw [szG_eq (by omega) (by omega) k3.1 k3.2]
  simp only [Option.bind_some]
  by_cases h3 : (szG L3 : Int) ≤ 1048576 - (a.ps.length : Int) - (szG L1 : Int) - (szG L2 : Int)
  case neg => rw [if_neg h3]; rfl
  rw [if_pos h3, dff (by omega)]
  simp only [Bool.false_eq_true, if_false]
  have s1 : szG L1 ≤ 1048576 := by omega
  have s2 : szG L2 ≤ 1048576 := by omega
  have s3 : szG L3 ≤ 1048576 := by omega
  obtain ⟨g, e, s, ii, hg⟩ := change_eq a L1 L2 L3 (by omega) s1 s2 s3
  have f1 : L1.flatten.length ≤ szG L1 := by unfold szG; omega
  have f2 : L2.flatten.length ≤ szG L2 := by unfold szG; omega
  have f3 : L3.flatten.length ≤ szG L3 := by unfold szG; omega
  obtain ⟨m1, hm1⟩ := markG_eq (L := L1) (k := 1 + 27 * a.ps.length) s1 (by omega) (by omega)
  obtain ⟨m2, hm2⟩ := markG_eq (L := L2) (k := 1 + 27 * a.ps.length + L1.flatten.length) s2 (by omega) (by omega)
  obtain ⟨m3, hm3⟩ := markG_eq (L := L3) (k := 1 + 27 * a.ps.length + L1.flatten.length + L2.flatten.length) s3 (by omega) (by omega)
  simp only [laws_toScheme_eq (show a.ps.length ≤ 1048576 by omega), toGrid_eq s1, toGrid_eq s2, toGrid_eq s3, Option.bind_some, gi_range, s, ii]
  rw [laws_eqScheme_eq (by omega), laws_eqScheme_eq (by omega), laws_markScheme_eq (by omega) (by omega) (by omega)]
  simp only [Option.bind_some, decide_true, Bool.not_true, Bool.false_eq_true, if_false, ne_eq, not_true_eq_false, decide_false, eqGridG s1, eqGridG s2, eqGridG s3, hm1, hm2, hm3]
  rw [dff (by omega), laws_markScheme_eq (by omega) (by omega) (by omega)]
  simp only [Bool.false_eq_true, if_false, Option.bind_some]
  rw [laws_heldScheme_eq (n := g.ps.length) rfl (by omega) (by omega) (by omega)]
  simp only [Option.bind_some]
  rw [dff (by omega)]
  simp
end Go.Proofs.YtB
