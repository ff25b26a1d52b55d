/- Plain laws: PlusMove's two forms are the same. -/
import Derived.Test.YtaaghemmkbgldaaWfPu7
import Derived.Test.YtaaghemmkbgldaaWfG1
set_option linter.unusedVariables false
set_option linter.unusedSimpArgs false
namespace Go.Proofs.YtB
open Go Go.RowKit Go.Proofs

def inB (a : Sch) (i : Int) : Bool := decide (0 ≤ i) && decide (i < a.ps.length)
theorem num_s (a : Sch) (hl : a.ps.length ≤ 1000) (l : List Int) (j : Nat) (hj : j < l.length) (hll : l.length ≤ 1000) : spec_l03Numbers_l1 a l (j : Int) = if inB a l[j] then some (.next ((j + 1 : Nat) : Int)) else some (.ret false) := by
  unfold spec_l03Numbers_l1
  rw [dtt (by omega : (j : Int) < l.length), if_pos rfl, if_pos (by omega), gl_nat hj, w64_id (by omega) (by omega)]
  unfold spec_l01In
  by_cases h1 : 0 ≤ l[j] <;> by_cases h2 : l[j] < a.ps.length
  · rw [dtt h1, dtt (by omega)]
    simp only [Option.bind_some, if_true, Bool.not_true, Bool.false_eq_true, if_false]
    rw [w64s (by omega)]
    simp [inB, h1, h2]
  · rw [dtt h1, dff (by omega)]
    simp [inB, h1, h2]
  · rw [dff h1]
    simp [inB, h1, h2]
  · rw [dff h1]
    simp [inB, h1, h2]
theorem num_i (a : Sch) (l : List Int) (j : Nat) (hj : j < l.length) (hll : l.length ≤ 1000) : impl_isIndex_l1 a l (j : Int) = if inB a l[j] then some (.next ((j + 1 : Nat) : Int)) else some (.ret false) := by
  unfold impl_isIndex_l1
  rw [dtt (by omega : (j : Int) < l.length), if_pos rfl, if_pos (by omega), gl_nat hj]
  by_cases h1 : 0 ≤ l[j] <;> by_cases h2 : l[j] < a.ps.length
  · rw [dff (by omega), dff (by omega)]
    simp only [Option.bind_some, Bool.false_eq_true, if_false]
    rw [w64s (by omega)]
    simp [inB, h1, h2]
  · rw [dff (by omega), dtt (by omega)]
    simp [inB, h1, h2]
  · rw [dtt (by omega)]
    simp [inB, h1, h2]
  · rw [dtt (by omega)]
    simp [inB, h1, h2]
theorem nums_s (a : Sch) (hl : a.ps.length ≤ 1000) (l : List Int) (hll : l.length ≤ 1000) : spec_l03Numbers a l = some (l.all (inB a)) := by
  unfold spec_l03Numbers
  have h := iter_find (body := fun s => spec_l03Numbers_l1 a l s) (fun j => (j : Int)) l.length (fun j => if h : j < l.length then !inB a l[j] else false) false (s' := (l.length : Int)) (fun j hj hb => by
    show spec_l03Numbers_l1 a l (j : Int) = _
    simp only [hj, dite_true, Bool.not_eq_false'] at hb
    rw [num_s a hl l j hj hll, hb]; rfl) (fun j hj hb => by
    show spec_l03Numbers_l1 a l (j : Int) = _
    simp only [hj, dite_true, Bool.not_eq_true'] at hb
    rw [num_s a hl l j hj hll, hb]; rfl) (by
    show spec_l03Numbers_l1 a l (l.length : Int) = _
    unfold spec_l03Numbers_l1
    rw [dff (by omega), if_neg (by decide)])
  rw [show ((0 : Nat) : Int) = 0 from rfl] at h
  rw [h]
  by_cases hall : l.all (inB a) = true
  · rw [if_pos, hall]
    · rfl
    · simp only [List.all_eq_true, List.mem_range]
      intro j hj
      simp only [hj, dite_true, Bool.not_not]
      exact List.all_eq_true.1 hall _ (List.getElem_mem hj)
  · rw [if_neg, Bool.eq_false_iff.2 hall]
    · rfl
    · intro h2
      apply hall
      simp only [List.all_eq_true]
      intro q hq
      obtain ⟨t, ht, rfl⟩ := List.getElem_of_mem hq
      have := List.all_eq_true.1 h2 t (List.mem_range.2 ht)
      simpa [ht] using this
theorem nums_i (a : Sch) (l : List Int) (hll : l.length ≤ 1000) : impl_isIndex a l = some (l.all (inB a)) := by
  unfold impl_isIndex
  have h := iter_find (body := fun s => impl_isIndex_l1 a l s) (fun j => (j : Int)) l.length (fun j => if h : j < l.length then !inB a l[j] else false) false (s' := (l.length : Int)) (fun j hj hb => by
    show impl_isIndex_l1 a l (j : Int) = _
    simp only [hj, dite_true, Bool.not_eq_false'] at hb
    rw [num_i a l j hj hll, hb]; rfl) (fun j hj hb => by
    show impl_isIndex_l1 a l (j : Int) = _
    simp only [hj, dite_true, Bool.not_eq_true'] at hb
    rw [num_i a l j hj hll, hb]; rfl) (by
    show impl_isIndex_l1 a l (l.length : Int) = _
    unfold impl_isIndex_l1
    rw [dff (by omega), if_neg (by decide)])
  rw [show ((0 : Nat) : Int) = 0 from rfl] at h
  rw [h]
  by_cases hall : l.all (inB a) = true
  · rw [if_pos, hall]
    · rfl
    · simp only [List.all_eq_true, List.mem_range]
      intro j hj
      simp only [hj, dite_true, Bool.not_not]
      exact List.all_eq_true.1 hall _ (List.getElem_mem hj)
  · rw [if_neg, Bool.eq_false_iff.2 hall]
    · rfl
    · intro h2
      apply hall
      simp only [List.all_eq_true]
      intro q hq
      obtain ⟨t, ht, rfl⟩ := List.getElem_of_mem hq
      have := List.all_eq_true.1 h2 t (List.mem_range.2 ht)
      simpa [ht] using this
end Go.Proofs.YtB
