/- Plain laws: the invertible squares of a size of at most 2, modulo 2, in both forms. -/
import Derived.Test.YtbhaeajdabgnhaaAePu46
import Derived.KernelRfl
import Derived.Test.YtbhaeajdabgnhaaAeG3
import Derived.Test.YtbhaeajdabgnhaaAeG1
set_option linter.unusedVariables false
set_option linter.unusedSimpArgs false
namespace Go.Proofs.YtB
open Go Go.RowKit Go.Proofs
/-- the square of bits, the lowest first -/
def bsq (j : Nat) : List (List Int) := [[((j % 2 : Nat) : Int), ((j / 2 % 2 : Nat) : Int)], [((j / 4 % 2 : Nat) : Int), ((j / 8 % 2 : Nat) : Int)]]
/-- the highest first -/
def tsq (j : Nat) : List (List Int) := [[((j / 8 % 2 : Nat) : Int), ((j / 4 % 2 : Nat) : Int)], [((j / 2 % 2 : Nat) : Int), ((j % 2 : Nat) : Int)]]
def ivb (L : List (List Int)) : Bool := (gj 2 2 2 0 (augM 2 L)).isSome
theorem p2 : pr 2 := .inl rfl
theorem bsq_sq (j : Nat) : Sq 2 2 (bsq j) := by
  refine ⟨rfl, by omega, by omega, fun x hx => ?_⟩
  simp only [bsq, List.mem_cons, List.not_mem_nil, or_false] at hx
  rcases hx with rfl | rfl <;> refine ⟨rfl, fun y hy => ?_⟩ <;> simp only [List.mem_cons, List.not_mem_nil, or_false] at hy <;> omega
theorem tsq_sq (j : Nat) : Sq 2 2 (tsq j) := by
  refine ⟨rfl, by omega, by omega, fun x hx => ?_⟩
  simp only [tsq, List.mem_cons, List.not_mem_nil, or_false] at hx
  rcases hx with rfl | rfl <;> refine ⟨rfl, fun y hy => ?_⟩ <;> simp only [List.mem_cons, List.not_mem_nil, or_false] at hy <;> omega
theorem bits_i : ∀ j : Nat, j < 16 → iter (fun s : Int × List Int => impl_invertibles_l7 2 (j : Int) s.1 s.2) (0, []) = some (.stop (4, (bsq j).flatten)) := by
  intro j hj
  have h : j = 0 ∨ j = 1 ∨ j = 2 ∨ j = 3 ∨ j = 4 ∨ j = 5 ∨ j = 6 ∨ j = 7 ∨ j = 8 ∨ j = 9 ∨ j = 10 ∨ j = 11 ∨ j = 12 ∨ j = 13 ∨ j = 14 ∨ j = 15 := by omega
  rcases h with rfl | rfl | rfl | rfl | rfl | rfl | rfl | rfl | rfl | rfl | rfl | rfl | rfl | rfl | rfl | rfl <;> exact iter_of (k := 6) (by kernel_rfl)
theorem parted_b (a b c d : Int) : impl_parted [a, b, c, d] 2 = some [[a, b], [c, d]] := by
  unfold impl_parted
  have h : iter (fun s : Int × List (List Int) => impl_parted_l1 [a, b, c, d] 2 s.1 s.2) (0, []) = some (.stop (4, [[a, b], [c, d]])) := iter_of (k := 4) (by rfl)
  rw [h]
  rfl
theorem iv_step {j : Nat} (hj : j < 16) {acc : List (List (List Int))} (ha : acc.length ≤ 1000) : impl_invertibles_l2 2 (j : Int) acc = some (.next (((j + 1 : Nat) : Int), if ivb (bsq j) then acc ++ [bsq j] else acc)) := by
  have hp : impl_parted (bsq j).flatten 2 = some (bsq j) := parted_b _ _ _ _
  unfold impl_invertibles_l2
  rw [show shl64 (1 : Int) (w64 (2 * 2)) = 16 by kernel_rfl, dtt (by omega), if_pos rfl, bits_i j hj]
  simp only [Option.bind_some]
  rw [hp]
  simp only [Option.bind_some]
  rw [invertible_i p2 (bsq_sq j)]
  simp only [Option.bind_some]
  rw [w64s (by omega), if_pos (show (acc.length + [bsq j].length) * 24 ≤ 140737488355328 by simp; omega)]
  unfold ivb
  cases (gj 2 2 2 0 (augM 2 (bsq j))).isSome <;> rfl
def IL2 : List (List (List Int)) := ((List.range 16).map bsq).filter ivb
def TL2 : List (List (List Int)) := ((List.range 16).map tsq).filter ivb
theorem filt_step {α : Type} (f : Nat → α) (q : α → Bool) (j : Nat) : (if q (f j) then ((List.range j).map f).filter q ++ [f j] else ((List.range j).map f).filter q) = ((List.range (j + 1)).map f).filter q := by
  rw [snoc_map, List.filter_append]
  cases h : q (f j)
  · simp [h]
  · simp [h]
theorem filt_len {α : Type} (f : Nat → α) (q : α → Bool) (j : Nat) : (((List.range j).map f).filter q).length ≤ j := by
  have := List.length_filter_le q ((List.range j).map f)
  simpa using this
theorem invertibles_2 : impl_invertibles 2 = some IL2 := by
  have := iter_up (body := fun s : Int × List (List (List Int)) => impl_invertibles_l2 2 s.1 s.2) (fun j => ((j : Int), ((List.range j).map bsq).filter ivb)) 16 (s' := (16, IL2)) (fun j hj => by
    show impl_invertibles_l2 2 (j : Int) (((List.range j).map bsq).filter ivb) = _
    have := filt_len bsq ivb j
    rw [iv_step hj (by omega), filt_step]) (by
    show impl_invertibles_l2 2 ((16 : Nat) : Int) (((List.range 16).map bsq).filter ivb) = _
    unfold impl_invertibles_l2
    rw [show shl64 (1 : Int) (w64 (2 * 2)) = 16 by kernel_rfl, dff (by omega), if_neg (by decide)]
    rfl)
  have h0 : (((0 : Nat) : Int), ((List.range 0).map bsq).filter ivb) = (0, []) := by simp
  rw [h0] at this
  unfold impl_invertibles
  rw [if_pos (by decide), this]
  rfl
theorem ts_w : ∀ j : Nat, j < 16 → ([[w64 ((j : Int).tdiv 8), (w64 ((j : Int).tdiv 4)).tmod 2], [(w64 ((j : Int).tdiv 2)).tmod 2, (j : Int).tmod 2]] : List (List Int)) = tsq j := by
  intro j hj
  have h : j = 0 ∨ j = 1 ∨ j = 2 ∨ j = 3 ∨ j = 4 ∨ j = 5 ∨ j = 6 ∨ j = 7 ∨ j = 8 ∨ j = 9 ∨ j = 10 ∨ j = 11 ∨ j = 12 ∨ j = 13 ∨ j = 14 ∨ j = 15 := by omega
  rcases h with rfl | rfl | rfl | rfl | rfl | rfl | rfl | rfl | rfl | rfl | rfl | rfl | rfl | rfl | rfl | rfl <;> rfl
theorem all_2 : spec_l04All 2 = some TL2 := by
  have := iter_up (body := fun s : Int × List (List (List Int)) => spec_l04All_l2 s.1 s.2) (fun j => ((j : Int), ((List.range j).map tsq).filter ivb)) 16 (s' := (16, TL2)) (fun j hj => by
    show spec_l04All_l2 (j : Int) (((List.range j).map tsq).filter ivb) = _
    have := filt_len tsq ivb j
    unfold spec_l04All_l2
    rw [ts_w j hj, dtt (by omega), if_pos rfl, inverse_sq p2 (tsq_sq j)]
    simp only [Option.bind_some]
    rw [w64s (by omega), if_pos (show ((((List.range j).map tsq).filter ivb).length + [tsq j].length) * 24 ≤ 140737488355328 by simp only [List.length_singleton]; omega), ← filt_step]
    unfold ivb
    cases gj 2 2 2 0 (augM 2 (tsq j)) <;> rfl) (by
    show spec_l04All_l2 ((16 : Nat) : Int) (((List.range 16).map tsq).filter ivb) = _
    unfold spec_l04All_l2
    rw [dff (by omega), if_neg (by decide)]
    rfl)
  have h0 : (((0 : Nat) : Int), ((List.range 0).map tsq).filter ivb) = (0, []) := by simp
  rw [h0] at this
  unfold spec_l04All
  rw [dff (by omega)]
  simp only [Bool.false_eq_true, if_false]
  rw [this]
  rfl
def I2 : List (List (List Int)) := [[[0, 1], [1, 0]], [[1, 1], [1, 0]], [[1, 0], [0, 1]], [[1, 1], [0, 1]], [[1, 0], [1, 1]], [[0, 1], [1, 1]]]
def T2 : List (List (List Int)) := [[[0, 1], [1, 0]], [[0, 1], [1, 1]], [[1, 0], [0, 1]], [[1, 0], [1, 1]], [[1, 1], [0, 1]], [[1, 1], [1, 0]]]
theorem IL2_eq : IL2 = I2 := by decide +kernel
theorem TL2_eq : TL2 = T2 := by decide +kernel
theorem IT_perm : IL2.Perm TL2 := by rw [IL2_eq, TL2_eq]; decide
def IL (n : Nat) : List (List (List Int)) := if n = 1 then [[[1]]] else IL2
def TL (n : Nat) : List (List (List Int)) := if n = 1 then [[[1]]] else TL2
theorem IL_TL (n : Nat) : (IL n).Perm (TL n) := by
  unfold IL TL
  split
  · exact List.Perm.refl _
  · exact IT_perm
theorem one_sq : Sq 2 1 [[1]] := by
  refine ⟨rfl, by omega, by omega, fun x hx => ?_⟩
  simp only [List.mem_cons, List.not_mem_nil, or_false] at hx
  subst hx
  refine ⟨rfl, fun y hy => ?_⟩
  simp only [List.mem_cons, List.not_mem_nil, or_false] at hy
  omega
theorem zero_sq : Sq 2 1 [[0]] := by
  refine ⟨rfl, by omega, by omega, fun x hx => ?_⟩
  simp only [List.mem_cons, List.not_mem_nil, or_false] at hx
  subst hx
  refine ⟨rfl, fun y hy => ?_⟩
  simp only [List.mem_cons, List.not_mem_nil, or_false] at hy
  omega
theorem parted_1 (a : Int) : impl_parted [a] 1 = some [[a]] := by
  unfold impl_parted
  have h : iter (fun s : Int × List (List Int) => impl_parted_l1 [a] 1 s.1 s.2) (0, []) = some (.stop (1, [[a]])) := iter_of (k := 4) (by rfl)
  rw [h]
  rfl
theorem invertibles_1 : impl_invertibles 1 = some [[[1]]] := by
  have b0 : iter (fun s : Int × List Int => impl_invertibles_l7 1 0 s.1 s.2) (0, []) = some (.stop (1, [0])) := iter_of (k := 4) (by kernel_rfl)
  have b1 : iter (fun s : Int × List Int => impl_invertibles_l7 1 1 s.1 s.2) (0, []) = some (.stop (1, [1])) := iter_of (k := 4) (by kernel_rfl)
  have e0 : impl_invertibles_l2 1 0 [] = some (.next (1, [])) := by
    unfold impl_invertibles_l2
    rw [show shl64 (1 : Int) (w64 (1 * 1)) = 2 by kernel_rfl, dtt (by omega), if_pos rfl, b0]
    simp only [Option.bind_some]
    rw [parted_1]
    simp only [Option.bind_some]
    rw [invertible_i p2 zero_sq]
    rfl
  have e1 : impl_invertibles_l2 1 1 [] = some (.next (2, [[[1]]])) := by
    unfold impl_invertibles_l2
    rw [show shl64 (1 : Int) (w64 (1 * 1)) = 2 by kernel_rfl, dtt (by omega), if_pos rfl, b1]
    simp only [Option.bind_some]
    rw [parted_1]
    simp only [Option.bind_some]
    rw [invertible_i p2 one_sq]
    rfl
  have e2 : impl_invertibles_l2 1 2 [[[1]]] = some (.stop (2, [[[1]]])) := by
    unfold impl_invertibles_l2
    rw [show shl64 (1 : Int) (w64 (1 * 1)) = 2 by kernel_rfl, dff (by omega), if_neg (by decide)]
  unfold impl_invertibles
  rw [if_pos (by decide), iter_next (body := fun s : Int × List (List (List Int)) => impl_invertibles_l2 1 s.1 s.2) (s := (0, [])) (s' := (1, [])) e0, iter_next (body := fun s : Int × List (List (List Int)) => impl_invertibles_l2 1 s.1 s.2) (s := (1, [])) (s' := (2, [[[1]]])) e1, iter_stop (body := fun s : Int × List (List (List Int)) => impl_invertibles_l2 1 s.1 s.2) e2]
  rfl
theorem all_1 : spec_l04All 1 = some [[[1]]] := by
  unfold spec_l04All
  rfl
theorem invertibles_i {n : Nat} (h1 : 1 ≤ n) (h2 : n ≤ 2) : impl_invertibles (n : Int) = some (IL n) := by
  have h : n = 1 ∨ n = 2 := by omega
  rcases h with rfl | rfl
  · exact invertibles_1
  · exact invertibles_2
theorem all_s {n : Nat} (h1 : 1 ≤ n) (h2 : n ≤ 2) : spec_l04All (n : Int) = some (TL n) := by
  have h : n = 1 ∨ n = 2 := by omega
  rcases h with rfl | rfl
  · exact all_1
  · exact all_2
theorem TL_ok {n : Nat} (h1 : 1 ≤ n) (h2 : n ≤ 2) {L : List (List Int)} (hL : L ∈ TL n) : Sq 2 n L ∧ (gj 2 n n 0 (augM n L)).isSome = true := by
  have h : n = 1 ∨ n = 2 := by omega
  rcases h with rfl | rfl
  · unfold TL at hL
    rw [if_pos rfl] at hL
    rw [List.mem_singleton.1 hL]
    exact ⟨one_sq, by kernel_rfl⟩
  · unfold TL at hL
    rw [if_neg (by omega)] at hL
    obtain ⟨h3, h4⟩ := List.mem_filter.1 hL
    obtain ⟨j, _, rfl⟩ := List.mem_map.1 h3
    exact ⟨tsq_sq j, h4⟩
theorem IL_len (n : Nat) : (IL n).length ≤ 6 := by
  unfold IL
  split
  · simp
  · rw [IL2_eq]; decide
end Go.Proofs.YtB
