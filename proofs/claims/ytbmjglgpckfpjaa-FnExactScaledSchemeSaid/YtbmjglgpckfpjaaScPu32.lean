/- Plain laws: scaled schemes, in both forms. -/
import Derived.Test.YtbmjglgpckfpjaaScPu31
import Derived.Test.YtbmjglgpckfpjaaScG2
import Derived.Test.YtbmjglgpckfpjaaScG1
set_option linter.unusedVariables false
set_option linter.unusedSimpArgs false
namespace Go.Proofs.YtB
open Go Go.RowKit Go.Proofs
theorem first4_body (f : Form) (s : Int) : spec_l04First_l1 f s = spec_l03Lead_l1 f s := by
  unfold spec_l04First_l1 spec_l03Lead_l1
  rfl
theorem first4_s (f : Form) : spec_l04First f = some (ld f) := by
  rw [← lead_s]
  unfold spec_l04First spec_l03Lead
  have h : (fun s => spec_l04First_l1 f s) = (fun s => spec_l03Lead_l1 f s) := funext (first4_body f)
  rw [h]
  rfl
theorem scaled_l8 (a : Sch) (hp : pr a.p) (hl : a.ps.length ≤ 60) (hg : ∀ q ∈ a.ps, Gq a.p q) : iter (fun s : Int × List Prod => spec_ScaledScheme_l8 a s.1 s.2) (0, []) = some (.stop ((a.ps.length : Int), a.ps.map (nrm a.p))) := by
  refine iter_map (ρ := Sch × Int) (body := fun s : Int × List Prod => spec_ScaledScheme_l8 a s.1 s.2) a.ps (nrm a.p) (by omega) (fun j acc hj hacc => ?_) (fun acc => ?_)
  · show spec_ScaledScheme_l8 a (j : Int) acc = _
    have h := hg _ (List.getElem_mem hj)
    generalize hq : a.ps[j] = q at h
    have n := nz_iff.1 h.nz
    have fa := ld_range n.1 h.a
    have fb := ld_range n.2.1 h.b
    have ia := inv_range hp fa.1 fa.2
    have ib := inv_range hp fb.1 fb.2
    have hm := ld_mul hp h
    have hp5 : a.p ≤ 5 := by unfold pr at hp; omega
    have hp0 := pr_le hp
    unfold spec_ScaledScheme_l8
    rw [dtt (by omega), if_pos rfl, if_pos ⟨by omega, by omega⟩, gl_nat hj, hq, first4_s, first4_s]
    simp only [Option.bind_some]
    rw [inverse_s hp fa.1 fa.2]
    simp only [Option.bind_some]
    rw [scale_s _ hp (by omega) (by omega)]
    simp only [Option.bind_some]
    rw [inverse_s hp fb.1 fb.2]
    simp only [Option.bind_some]
    rw [scale_s _ hp (by omega) (by omega)]
    simp only [Option.bind_some]
    rw [if_pos (by omega), w64_lit (by omega) (by omega), Int.tmod_eq_emod_of_nonneg (by omega), scale_s _ hp (by omega) (by omega), mulF_mod _ _ _ hp0.1 hp0.2]
    simp only [Option.bind_some]
    rw [if_pos (by simp only [List.length_singleton]; omega), w64s (by omega)]
    rfl
  · show spec_ScaledScheme_l8 a (a.ps.length : Int) acc = _
    unfold spec_ScaledScheme_l8
    rw [dff (by omega), if_neg (by decide)]
theorem scaledScheme_eq (a : Sch) (ha : a.ps.length ≤ 2097152) : ∃ g e, spec_ScaledScheme a = some (g, e) ∧ impl_ScaledScheme a = some (g, e) ∧ g.ps.length ≤ 60 := by
  obtain ⟨h1, h2⟩ := scheme_eq3 a (by omega)
  unfold spec_ScaledScheme impl_ScaledScheme
  rw [h1, h2]
  simp only [Option.bind_some]
  cases hs : schemeB a with
  | false => exact ⟨⟨0, 0, 0, 0, []⟩, 1, rfl, rfl, by simp⟩
  | true =>
    have h := schemeB_is hs
    have hl := h.l
    refine ⟨⟨a.p, a.n, a.m, a.k, srt (a.ps.map (nrm a.p))⟩, 0, ?_, ?_, by rw [srt_len]; simp; omega⟩
    · simp only [Bool.not_true, Bool.false_eq_true, if_false]
      unfold spec_l01Empty
      simp only [Option.bind_some]
      rw [scaled_l8 a h.p (by omega) h.G]
      simp only [Option.bind_some]
      rw [sorted_s _ (by simp; omega)]
      rfl
    · simp only [Bool.not_true, Bool.false_eq_true, if_false]
      rw [normals_i a h.p (by omega) h.G]
      simp only [Option.bind_some]
      rw [sorted_i _ (by simp; omega)]
      rfl
end Go.Proofs.YtB
