/- Plain laws: squares, and changes by squares, in both forms. -/
import Derived.Test.YtbhaeajdabgnhaaSqPu44
import Derived.Test.YtbhaeajdabgnhaaSqG2
import Derived.Test.YtbhaeajdabgnhaaSqG1
set_option linter.unusedVariables false
set_option linter.unusedSimpArgs false
namespace Go.Proofs.YtB
open Go Go.RowKit Go.Proofs
theorem all_range {α : Type} {x : List α} {ok : Nat → Bool} {f : α → Bool} (h : ∀ j (hj : j < x.length), ok j = f x[j]) : (List.range x.length).all ok = x.all f := by
  rw [Bool.eq_iff_iff, List.all_eq_true, List.all_eq_true]
  constructor
  · intro H y hy
    obtain ⟨j, hj, rfl⟩ := List.mem_iff_getElem.1 hy
    rw [← h j hj]; exact H j (List.mem_range.2 hj)
  · intro H j hj
    rw [h j (List.mem_range.1 hj)]
    exact H _ (List.getElem_mem _)
def numB (p : Int) (x : List Int) : Bool := x.all fun y => decide (0 ≤ y) && decide (y < p)
def rowB (p : Int) (n : Nat) (x : List Int) : Bool := decide (x.length = n) && numB p x
theorem numbers_i (p : Int) (x : List Int) (h : x.length ≤ 9000000000000000000) : impl_areNumbers p x = some (numB p x) := by
  have := iter_all (body := fun s => impl_areNumbers_l1 p x s) (fun j => (j : Int)) x.length (fun j => if hj : j < x.length then decide (0 ≤ x[j]) && decide (x[j] < p) else true) false (s' := (x.length : Int)) (fun j hj => by
    show impl_areNumbers_l1 p x (j : Int) = _
    unfold impl_areNumbers_l1
    rw [dtt (by omega), if_pos rfl, if_pos ⟨by omega, by omega⟩, gl_nat hj, w64s (by omega), dif_pos hj]
    by_cases h1 : x[j] < 0
    · rw [dtt h1, dff (show ¬ 0 ≤ x[j] by omega)]; rfl
    · rw [dff h1, dtt (show 0 ≤ x[j] by omega)]
      by_cases h2 : p ≤ x[j]
      · rw [dtt h2, dff (show ¬ x[j] < p by omega)]; rfl
      · rw [dff h2, dtt (show x[j] < p by omega)]; rfl) (by
    show impl_areNumbers_l1 p x (x.length : Int) = _
    unfold impl_areNumbers_l1
    rw [dff (by omega), if_neg (by decide)])
  rw [all_range (f := fun y => decide (0 ≤ y) && decide (y < p)) (fun j hj => by rw [dif_pos hj])] at this
  unfold impl_areNumbers numB
  rw [show ((0 : Nat) : Int) = 0 from rfl] at this
  rw [this]
  cases x.all fun y => decide (0 ≤ y) && decide (y < p) <;> rfl
theorem matrix_i2 (p : Int) (n : Nat) (L : List (List Int)) (hl : L.length ≤ 9000000000000000000) (h : ∀ x ∈ L, x.length ≤ 9000000000000000000) : impl_isMatrix p (n : Int) (n : Int) L = some (L.all (rowB p n) && decide (L.length = n)) := by
  have := iter_all (body := fun s => impl_isMatrix_l1 p (n : Int) L s) (fun j => (j : Int)) L.length (fun j => if hj : j < L.length then rowB p n L[j] else true) false (s' := (L.length : Int)) (fun j hj => by
    show impl_isMatrix_l1 p (n : Int) L (j : Int) = _
    unfold impl_isMatrix_l1
    rw [dtt (by omega), if_pos rfl, if_pos ⟨by omega, by omega⟩, gl_nat hj, w64s (by omega), numbers_i p _ (h _ (List.getElem_mem hj)), dif_pos hj]
    unfold rowB
    by_cases h1 : L[j].length = n
    · rw [dff (show ¬ (L[j].length : Int) ≠ (n : Int) by omega), dtt h1]
      cases numB p L[j] <;> rfl
    · rw [dtt (show (L[j].length : Int) ≠ (n : Int) by omega), dff h1]; rfl) (by
    show impl_isMatrix_l1 p (n : Int) L (L.length : Int) = _
    unfold impl_isMatrix_l1
    rw [dff (by omega), if_neg (by decide)])
  rw [all_range (f := rowB p n) (fun j hj => by rw [dif_pos hj])] at this
  unfold impl_isMatrix
  rw [show ((0 : Nat) : Int) = 0 from rfl] at this
  rw [this]
  cases L.all (rowB p n)
  · rfl
  · simp only [if_true, Option.bind_some, Bool.true_and]
    congr 1
    rw [Bool.eq_iff_iff]; simp; omega
theorem in_lo {p x : Int} (hp : pr p) : spec_l01In x 0 (w64 (p - 1)) = some (decide (0 ≤ x) && decide (x < p)) := by
  have l := pr_le hp
  unfold spec_l01In
  rw [w64_lit (by omega) (by omega)]
  by_cases h : 0 ≤ x
  · rw [dtt h]
    simp only [if_true, Option.bind_some, Bool.true_and]
    congr 1
    rw [Bool.eq_iff_iff]; simp; omega
  · rw [dff h]; rfl
theorem matrix_s2 {p : Int} (hp : pr p) (n : Nat) (L : List (List Int)) (hl : L.length ≤ 9000000000000000000) (h : ∀ x ∈ L, x.length ≤ 9000000000000000000) : spec_l01Matrix p L (n : Int) (n : Int) = some (decide (L.length = n) && L.all (rowB p n)) := by
  have hrow : ∀ (i : Nat) (hi : i < L.length), iter (fun s => spec_l01Matrix_l8 p L (i : Int) s) 0 = if numB p L[i] then some (.stop (L[i].length : Int)) else some (.ret false) := fun i hi => by
    have hx := h _ (List.getElem_mem hi)
    have := iter_all (body := fun s => spec_l01Matrix_l8 p L (i : Int) s) (fun j => (j : Int)) L[i].length (fun j => if hj : j < L[i].length then decide (0 ≤ L[i][j]) && decide (L[i][j] < p) else true) false (s' := (L[i].length : Int)) (fun j hj => by
      show spec_l01Matrix_l8 p L (i : Int) (j : Int) = _
      unfold spec_l01Matrix_l8
      rw [gl_nat hi, dtt (by omega), if_pos rfl, if_pos ⟨by omega, by omega⟩, gl_nat hj, in_lo hp, w64s (by omega), dif_pos hj]
      simp only [Option.bind_some]
      cases decide (0 ≤ L[i][j]) && decide (L[i][j] < p) <;> rfl) (by
      show spec_l01Matrix_l8 p L (i : Int) (L[i].length : Int) = _
      unfold spec_l01Matrix_l8
      rw [gl_nat hi, dff (by omega), if_neg (by decide)])
    rw [all_range (f := fun y => decide (0 ≤ y) && decide (y < p)) (fun j hj => by rw [dif_pos hj])] at this
    exact this
  have := iter_all (body := fun s => spec_l01Matrix_l2 p L (n : Int) s) (fun j => (j : Int)) L.length (fun j => if hj : j < L.length then rowB p n L[j] else true) false (s' := (L.length : Int)) (fun j hj => by
    show spec_l01Matrix_l2 p L (n : Int) (j : Int) = _
    unfold spec_l01Matrix_l2
    rw [dtt (by omega), if_pos rfl, if_pos ⟨by omega, by omega⟩, gl_nat hj, w64s (by omega), hrow j hj, dif_pos hj]
    unfold rowB
    by_cases h1 : L[j].length = n
    · rw [dff (show ¬ (L[j].length : Int) ≠ (n : Int) by omega), dtt h1]
      cases numB p L[j] <;> rfl
    · rw [dtt (show (L[j].length : Int) ≠ (n : Int) by omega), dff h1]; rfl) (by
    show spec_l01Matrix_l2 p L (n : Int) (L.length : Int) = _
    unfold spec_l01Matrix_l2
    rw [dff (by omega), if_neg (by decide)])
  rw [all_range (f := rowB p n) (fun j hj => by rw [dif_pos hj])] at this
  unfold spec_l01Matrix
  rw [show ((0 : Nat) : Int) = 0 from rfl] at this
  rw [this]
  by_cases h1 : L.length = n
  · rw [dff (show ¬ (L.length : Int) ≠ (n : Int) by omega), dtt h1]
    cases L.all (rowB p n) <;> rfl
  · rw [dtt (show (L.length : Int) ≠ (n : Int) by omega), dff h1]; rfl
theorem size_one (x : Int) : impl_isSize [x] = some (sizeB x) := by
  unfold impl_isSize sizeB
  have e0 : impl_isSize_l1 [x] 0 = if decide (1 ≤ x) && decide (x ≤ 3) then some (.next 1) else some (.ret false) := by
    unfold impl_isSize_l1
    simp only [List.length_cons, List.length_nil, show decide ((0 : Int) < ((0 + 1 : Nat) : Int)) = true from rfl, if_true, show (0 ≤ (0 : Int) ∧ (0 : Int) < ((0 + 1 : Nat) : Int)) = True by simp, show gl 0 [x] 0 = x from rfl, show w64 ((0 : Int) + 1) = 1 from rfl]
    by_cases h1 : x < 1
    · rw [dtt h1, dff (show ¬ 1 ≤ x by omega)]; rfl
    · rw [dff h1, dtt (show 1 ≤ x by omega)]
      by_cases h2 : 3 < x
      · rw [dtt h2, dff (show ¬ x ≤ 3 by omega)]; rfl
      · rw [dff h2, dtt (show x ≤ 3 by omega)]; rfl
  have e1 : impl_isSize_l1 [x] 1 = some (.stop 1) := by unfold impl_isSize_l1; rfl
  cases hb : decide (1 ≤ x) && decide (x ≤ 3)
  · rw [hb] at e0
    rw [iter_ret e0]; rfl
  · rw [hb] at e0
    rw [iter_next (s' := 1) e0, iter_stop e1]; rfl
def sqB (p : Int) (L : List (List Int)) : Bool := primeB p && (sizeB (L.length : Int) && L.all (rowB p L.length))
theorem primeB_pr {p : Int} (h : primeB p = true) : pr p := by
  unfold primeB at h
  simp only [Bool.or_eq_true, decide_eq_true_eq] at h
  unfold pr
  omega
theorem square_i (p : Int) (L : List (List Int)) (hl : L.length ≤ 9000000000000000000) (h : ∀ x ∈ L, x.length ≤ 9000000000000000000) : impl_isSquare p L = some (sqB p L) := by
  unfold impl_isSquare sqB
  rw [prime_i, size_one, matrix_i2 p L.length L hl h]
  simp only [Option.bind_some, decide_true, Bool.and_true]
  cases primeB p
  · rfl
  · cases sizeB (L.length : Int)
    · rfl
    · rfl
theorem square_s (p : Int) (L : List (List Int)) (hl : L.length ≤ 9000000000000000000) (h : ∀ x ∈ L, x.length ≤ 9000000000000000000) : spec_l04Square p L = some (sqB p L) := by
  unfold spec_l04Square sqB
  rw [prime_s, in_s]
  simp only [Option.bind_some]
  cases hp : primeB p
  · rfl
  · rw [matrix_s2 (primeB_pr hp) L.length L hl h]
    cases sizeB (L.length : Int)
    · rfl
    · simp
theorem sqB_sq {p : Int} {L : List (List Int)} (h : sqB p L = true) : pr p ∧ Sq p L.length L := by
  unfold sqB at h
  simp only [Bool.and_eq_true, List.all_eq_true] at h
  obtain ⟨h1, h2, h3⟩ := h
  unfold sizeB at h2
  simp only [Bool.and_eq_true, decide_eq_true_eq] at h2
  refine ⟨primeB_pr h1, rfl, by omega, by omega, fun x hx => ?_⟩
  have := h3 x hx
  unfold rowB numB at this
  simp only [Bool.and_eq_true, decide_eq_true_eq, List.all_eq_true] at this
  exact this
theorem out_sq {p : Int} {n : Nat} (hp : pr p) {M : Nat → List Int} (hM : Mok p n (2 * n) M) (h1 : 1 ≤ n) (h3 : n ≤ 3) : Sq p n (outM n M) := by
  refine ⟨by simp [outM], h1, h3, fun x hx => ?_⟩
  unfold outM at hx
  obtain ⟨k, hk, rfl⟩ := List.mem_map.1 hx
  have hk := List.mem_range.1 hk
  have hl := hM.len k hk
  refine ⟨by rw [List.length_drop]; omega, fun y hy => ?_⟩
  obtain ⟨t, ht, rfl⟩ := List.mem_iff_getElem.1 (List.mem_of_mem_drop hy)
  have := hM.rng k hk t
  rw [gl_nat ht] at this
  exact this
end Go.Proofs.YtB
