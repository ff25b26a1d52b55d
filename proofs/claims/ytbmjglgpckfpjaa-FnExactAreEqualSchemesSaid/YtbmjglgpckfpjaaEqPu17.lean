/- Plain laws: normal lists; which multiple a form is; two products made one. -/
import Derived.Test.YtbmjglgpckfpjaaEqPu16
import Derived.Test.YtbmjglgpckfpjaaEqG1
set_option linter.unusedVariables false
set_option linter.unusedSimpArgs false
namespace Go.Proofs.YtB
open Go Go.RowKit Go.Proofs
/-- a loop that maps a list -/
theorem iter_map {β γ ρ : Type} {body : Int × List γ → Option (LR (Int × List γ) ρ)} (l : List β) (f : β → γ) (hl : l.length ≤ 1000) (h : ∀ (j : Nat) acc, (hj : j < l.length) → acc.length ≤ 1000 → body ((j : Int), acc) = some (.next (((j + 1 : Nat) : Int), acc ++ [f l[j]]))) (hs : ∀ acc, body ((l.length : Int), acc) = some (.stop ((l.length : Int), acc))) :
    iter body (0, []) = some (.stop ((l.length : Int), l.map f)) := by
  have := iter_up (body := body) (fun j => ((j : Int), (l.take j).map f)) l.length (s' := ((l.length : Int), l.map f)) (fun j hj => by
    rw [h j _ hj (by simp; omega), ← List.take_append_getElem hj, List.map_append]
    rfl) (by rw [hs, List.take_length])
  simpa using this
theorem normals_i (a : Sch) (hp : pr a.p) (hl : a.ps.length ≤ 60) (hg : ∀ q ∈ a.ps, Gq a.p q) : impl_normals a = some ⟨a.p, a.n, a.m, a.k, a.ps.map (nrm a.p)⟩ := by
  unfold impl_normals
  have h := iter_map (ρ := Sch) (body := fun s : Int × List Prod => impl_normals_l1 a s.1 s.2) a.ps (nrm a.p) (by omega) (fun j acc hj hacc => by
    show impl_normals_l1 a (j : Int) acc = _
    unfold impl_normals_l1
    simp only [dtt (show (j : Int) < a.ps.length by omega), if_true, if_pos (show 0 ≤ (j : Int) ∧ (j : Int) < a.ps.length by omega), gl_nat hj, normal_i hp (hg _ (List.getElem_mem hj)), Option.bind_some]
    rw [if_pos (by simp only [List.length_singleton]; omega), w64s (by omega)]) (fun acc => by
    show impl_normals_l1 a (a.ps.length : Int) acc = _
    unfold impl_normals_l1
    rw [dff (by omega), if_neg (by decide)])
  rw [h]
  rfl
theorem normals_s (a : Sch) (hp : pr a.p) (hl : a.ps.length ≤ 60) (hg : ∀ q ∈ a.ps, Gq a.p q) : spec_l03AllNormal a = some ⟨a.p, a.n, a.m, a.k, a.ps.map (nrm a.p)⟩ := by
  unfold spec_l03AllNormal spec_l01Empty
  simp only [Option.bind_some]
  have h := iter_map (ρ := Sch) (body := fun s : Int × List Prod => spec_l03AllNormal_l5 a s.1 s.2) a.ps (nrm a.p) (by omega) (fun j acc hj hacc => by
    show spec_l03AllNormal_l5 a (j : Int) acc = _
    unfold spec_l03AllNormal_l5
    simp only [dtt (show (j : Int) < a.ps.length by omega), if_true, if_pos (show 0 ≤ (j : Int) ∧ (j : Int) < a.ps.length by omega), gl_nat hj, normal_s hp (hg _ (List.getElem_mem hj)), Option.bind_some]
    rw [if_pos (by simp only [List.length_singleton]; omega), w64s (by omega)]) (fun acc => by
    show spec_l03AllNormal_l5 a (a.ps.length : Int) acc = _
    unfold spec_l03AllNormal_l5
    rw [dff (by omega), if_neg (by decide)])
  rw [h]
  rfl
end Go.Proofs.YtB
