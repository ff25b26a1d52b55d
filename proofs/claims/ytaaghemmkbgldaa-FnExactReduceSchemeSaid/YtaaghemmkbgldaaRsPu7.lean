/- Plain laws: what stays of a list of products when those with a factor 0 go. -/
import Derived.Test.YtaaghemmkbgldaaRsPu6
import Derived.Test.YtaaghemmkbgldaaRsG1
set_option linter.unusedVariables false
set_option linter.unusedSimpArgs false
namespace Go.Proofs.YtB
open Go Go.RowKit Go.Proofs
def nz (q : Prod) : Bool := !(decide (q.1 = zForm) || decide (q.2.1 = zForm) || decide (q.2.2 = zForm))
theorem hasZero_eq (q : Prod) : impl_hasZero q = some (!nz q) := by
  unfold impl_hasZero nz
  by_cases z1 : q.1 = zForm <;> by_cases z2 : q.2.1 = zForm <;> simp [z1, z2]
theorem told_eq (a : Sch) (L : List Prod) (hL : L.length ≤ 1000) : spec_l03Told a L = some ⟨a.p, a.n, a.m, a.k, L.filter nz⟩ := by
  unfold spec_l03Told spec_l01Empty
  simp only [Option.bind_some]
  have h := iter_up (body := fun s : Int × List Prod => spec_l03Told_l5 L s.1 s.2) (fun j => ((j : Int), (L.take j).filter nz)) L.length (s' := ((L.length : Int), L.filter nz)) (fun j hj => by
    show spec_l03Told_l5 L (j : Int) ((L.take j).filter nz) = _
    unfold spec_l03Told_l5 spec_l01Zero
    have hf : ((L.take j).filter nz).length ≤ j := Nat.le_trans (List.length_filter_le _ _) (by simp; omega)
    rw [dtt (by omega : (j : Int) < L.length), if_pos rfl, if_pos (by omega), gl_nat hj, ← List.take_append_getElem hj, List.filter_append]
    simp only [Option.bind_some]
    have e : (if (!decide (L[j].1 = zForm)) = true then (if (!decide (L[j].2.1 = zForm)) = true then some (!decide (L[j].2.2 = zForm)) else some false) else some false) = some (nz L[j]) := by
      unfold nz
      by_cases z1 : L[j].1 = zForm <;> by_cases z2 : L[j].2.1 = zForm <;> simp [z1, z2]
    rw [e]
    simp only [Option.bind_some]
    cases hn : nz L[j]
    · rw [if_neg (by decide), w64s (by omega), show [L[j]].filter nz = [] by simp [hn], List.append_nil]
    · rw [if_pos rfl, if_pos (by simp only [List.length_singleton]; omega), w64s (by omega), show [L[j]].filter nz = [L[j]] by simp [hn]]) (by
    show spec_l03Told_l5 L (L.length : Int) _ = _
    unfold spec_l03Told_l5
    rw [dff (by omega), if_neg (by decide), List.take_length])
  rw [show iter (fun s : Int × List Prod => spec_l03Told_l5 L s.1 s.2) (0, ([] : List Prod)) = some (.stop ((L.length : Int), L.filter nz)) from h]
  rfl
end Go.Proofs.YtB
