/- Plain laws: copies, comparisons and marks of lists of numbers. -/
import Derived.Test.YtbhaeajdabgnhaaCsPu16
import Derived.Test.YtbhaeajdabgnhaaCsG1
set_option linter.unusedVariables false
set_option linter.unusedSimpArgs false
namespace Go.Proofs.YtB
open Go Go.RowKit Go.Proofs
theorem toInts_eq {l : List Int} (h : l.length ≤ 1048576) : laws_toInt64S l = some l := by
  unfold laws_toInt64S
  rw [if_pos ⟨by omega, by omega⟩]
  have h := iter_up (body := fun s : Int × List Int => laws_toInt64S_l2 l s.1 s.2) (fun j => ((j : Int), l.take j ++ List.replicate (l.length - j) 0)) l.length (s' := ((l.length : Int), l)) (fun j hj => by
    show laws_toInt64S_l2 l (j : Int) (l.take j ++ List.replicate (l.length - j) 0) = _
    unfold laws_toInt64S_l2
    have hlen : (l.take j ++ List.replicate (l.length - j) 0).length = l.length := by simp; omega
    simp only [dtt (show (j : Int) < l.length by omega), if_true, if_pos (show 0 ≤ (j : Int) ∧ (j : Int) < l.length by omega), hlen, gl_nat hj]
    rw [w64s (by omega), Int.toNat_natCast]
    congr 4
    have e1 : List.replicate (l.length - j) (0 : Int) = 0 :: List.replicate (l.length - (j + 1)) 0 := by
      rw [show l.length - j = (l.length - (j + 1)) + 1 by omega, List.replicate_succ]
    have m1 : (l.take j).length = j := by rw [List.length_take]; omega
    rw [e1, List.set_append_right _ _ (by omega), m1, Nat.sub_self, List.set_cons_zero, ← List.take_append_getElem hj, List.append_assoc]
    rfl) (by
    show laws_toInt64S_l2 l (l.length : Int) _ = _
    unfold laws_toInt64S_l2
    rw [dff (by omega), if_neg (by decide)]
    simp)
  simp only [List.take_zero, List.nil_append, Nat.sub_zero] at h
  rw [show ((0 : Nat) : Int) = 0 from rfl] at h
  rw [Int.toNat_natCast, h]
  rfl
theorem eqInts_eq {x y : List Int} (hx : x.length < 9223372036854775807) : laws_eqInt64S x y = some (decide (x = y)) := by
  unfold laws_eqInt64S
  by_cases hl : x.length = y.length
  · rw [dff (by omega), if_neg (by decide)]
    have h := iter_all (body := fun s => laws_eqInt64S_l2 x y s) (fun j => (j : Int)) x.length (fun j => if h : j < x.length then decide (x[j] = y[j]'(by omega)) else true) false (s' := (x.length : Int)) (fun j hj => by
      show laws_eqInt64S_l2 x y (j : Int) = _
      unfold laws_eqInt64S_l2
      simp only [dtt (show (j : Int) < x.length by omega), if_true, if_pos (show 0 ≤ (j : Int) ∧ (j : Int) < x.length by omega), if_pos (show 0 ≤ (j : Int) ∧ (j : Int) < y.length by omega), gl_nat hj, gl_nat (show j < y.length by omega), dif_pos hj]
      rw [w64s (by omega)]
      by_cases h : x[j] = y[j]'(by omega)
      · rw [dff (by simpa using h), dtt h]; rfl
      · rw [dtt h, dff h]; rfl) (by
      show laws_eqInt64S_l2 x y (x.length : Int) = _
      unfold laws_eqInt64S_l2
      rw [dff (by omega), if_neg (by decide)])
    rw [show ((0 : Nat) : Int) = 0 from rfl] at h
    rw [h]
    by_cases hxy : x = y
    · subst hxy
      rw [if_pos (by simp [List.all_eq_true]), dtt rfl]
      rfl
    · rw [if_neg, dff hxy]
      · rfl
      · intro hall
        apply hxy
        apply List.ext_getElem hl
        intro i hi hi'
        have := List.all_eq_true.1 hall i (List.mem_range.2 hi)
        simpa [hi] using this
  · rw [dtt (by omega), if_pos rfl, dff (by intro h; rw [h] at hl; exact hl rfl)]
/-- the marks of n numbers, from k on -/
def marksI (k : Int) (n : Nat) : List Int := (List.range n).map fun i : Nat => k + (i : Int)
theorem marksI_len (k : Int) (n : Nat) : (marksI k n).length = n := by simp [marksI]
theorem marksI_succ (k : Int) (n : Nat) : marksI k (n + 1) = marksI k n ++ [k + (n : Int)] := by simp [marksI, List.range_succ]
theorem markInts_eq {L : List Int} {k : Int} (hL : L.length ≤ 1000000000000) (hk : 0 ≤ k) (hk2 : k ≤ 1000000000000) : laws_markInt64S L k = some (k + L.length, marksI k L.length) := by
  unfold laws_markInt64S
  have h := iter_up (body := fun s : Int × Int × List Int => laws_markInt64S_l1 s.1 s.2.1 s.2.2) (fun j => (k + (j : Int), (j : Int), marksI k j ++ L.drop j)) L.length (s' := (k + (L.length : Int), (L.length : Int), marksI k L.length)) (fun j hj => by
    have hlen : (marksI k j ++ L.drop j).length = L.length := by simp [marksI_len]; omega
    show laws_markInt64S_l1 (k + (j : Int)) (j : Int) (marksI k j ++ L.drop j) = _
    unfold laws_markInt64S_l1
    simp only [hlen, dtt (show (j : Int) < L.length by omega), if_true, if_pos (show 0 ≤ (j : Int) ∧ (j : Int) < L.length by omega)]
    rw [w64s (by omega), Int.toNat_natCast, w64_id (by omega) (by omega), List.set_append_right _ _ (by rw [marksI_len]; exact Nat.le_refl _), marksI_len, Nat.sub_self, List.drop_eq_getElem_cons hj, List.set_cons_zero, marksI_succ, List.append_assoc]
    congr 3
    omega) (by
    show laws_markInt64S_l1 _ (L.length : Int) (marksI k L.length ++ L.drop L.length) = _
    unfold laws_markInt64S_l1
    rw [List.drop_length, List.append_nil, dff (by rw [marksI_len]; omega), if_neg (by decide)])
  rw [show ((0 : Nat) : Int) = 0 from rfl, show marksI k 0 = [] from rfl, List.drop_zero, List.nil_append, Int.add_zero] at h
  rw [h]
  rfl
end Go.Proofs.YtB
