/- Plain law: FnSquares answers yes. -/
import Derived.Test.YtbhaeajdabgnhaaSqPu51
import Derived.Test.YtbhaeajdabgnhaaSqPu53
import Derived.Test.YtbhaeajdabgnhaaSqG2
import Derived.Test.YtbhaeajdabgnhaaSqG1
set_option linter.unusedVariables false
set_option linter.unusedSimpArgs false
namespace Go.Proofs.YtB
open Go Go.RowKit Go.Proofs
theorem like_refl (x : List Int) (h : x.length ≤ 1000) : laws_likeInts x x = some true := by
  have := iter_up (body := fun s => laws_likeInts_l2 x x s) (fun j => (j : Int)) x.length (s' := (x.length : Int)) (fun j hj => by
    show laws_likeInts_l2 x x (j : Int) = _
    unfold laws_likeInts_l2
    rw [dtt (by omega), if_pos rfl, if_pos ⟨by omega, by omega⟩, if_pos ⟨by omega, by omega⟩, dff (fun h => h rfl), if_neg (by decide), w64s (by omega)]) (by
    show laws_likeInts_l2 x x (x.length : Int) = _
    unfold laws_likeInts_l2
    rw [dff (by omega), if_neg (by decide)])
  unfold laws_likeInts
  rw [dff (fun h => h rfl), if_neg (by decide), show (0 : Int) = ((0 : Nat) : Int) from rfl, this]
  rfl
theorem lists_refl (x : List (List Int)) (hl : x.length ≤ 1000) (h : ∀ y ∈ x, y.length ≤ 1000) : laws_lists9 x x = some true := by
  have := iter_up (body := fun s => laws_lists9_l2 x x s) (fun j => (j : Int)) x.length (s' := (x.length : Int)) (fun j hj => by
    show laws_lists9_l2 x x (j : Int) = _
    unfold laws_lists9_l2
    rw [dtt (by omega), if_pos rfl, if_pos ⟨by omega, by omega⟩, if_pos ⟨by omega, by omega⟩, gl_nat hj, like_refl _ (h _ (List.getElem_mem hj))]
    simp only [Option.bind_some]
    rw [if_neg (by decide), w64s (by omega)]) (by
    show laws_lists9_l2 x x (x.length : Int) = _
    unfold laws_lists9_l2
    rw [dff (by omega), if_neg (by decide)])
  unfold laws_lists9
  rw [dff (fun h => h rfl), if_neg (by decide), show (0 : Int) = ((0 : Nat) : Int) from rfl, this]
  rfl
theorem pow_bd {p : Int} (hp : pr p) {j : Nat} (hj : j ≤ 3) : 1 ≤ p ^ j ∧ p ^ j ≤ 125 := by
  match j, hj with
  | 0, _ => rw [Int.pow_zero]; omega
  | 1, _ => rcases hp with rfl | rfl | rfl <;> decide
  | 2, _ => rcases hp with rfl | rfl | rfl <;> decide
  | 3, _ => rcases hp with rfl | rfl | rfl <;> decide
theorem ps (p : Int) (j : Nat) : p ^ j * p = p ^ (j + 1) := (Int.pow_succ p j).symm
theorem pw1 (p : Int) : p ^ 1 = p := by rw [← ps, Int.pow_zero, Int.one_mul]
theorem power_i {p : Int} (hp : pr p) {k : Nat} (hk : k ≤ 3) : impl_power p (k : Int) = some (p ^ k) := by
  have := iter_up (body := fun s : Int × Int => impl_power_l1 p (k : Int) s.1 s.2) (fun j => (p ^ j, (j : Int))) k (s' := (p ^ k, (k : Int))) (fun j hj => by
    show impl_power_l1 p (k : Int) (p ^ j) (j : Int) = _
    unfold impl_power_l1
    have := pow_bd hp (show j + 1 ≤ 3 by omega)
    rw [dtt (by omega), if_pos rfl, ps p j, w64_id (x := p ^ (j + 1)) (by omega) (by omega), w64s (by omega)]) (by
    show impl_power_l1 p (k : Int) (p ^ k) (k : Int) = _
    unfold impl_power_l1
    rw [dff (by omega), if_neg (by decide)])
  unfold impl_power
  rw [show ((1 : Int), (0 : Int)) = (p ^ 0, ((0 : Nat) : Int)) by rw [Int.pow_zero]; rfl, this]
  rfl
def cntF (p : Int) (n : Nat) : Nat → Int
  | 0 => 1
  | j + 1 => w64 (cntF p n j * w64 (p ^ n - p ^ j))
theorem counts {p : Int} {n : Int} (h0 : 0 ≤ n) : ∃ r, impl_CountInvertible p n = some r ∧ spec_CountInvertible p n = some r ∧ (r.2 = 0 → n = 1 → r.1 = w64 (p - 1)) := by
  obtain ⟨n, rfl⟩ := Int.eq_ofNat_of_zero_le h0
  unfold impl_CountInvertible spec_CountInvertible
  rw [prime_i, prime_s, size_one, in_s]
  simp only [Option.bind_some]
  cases hb : primeB p
  · exact ⟨_, rfl, rfl, fun h => by cases h⟩
  · cases hs : sizeB (n : Int)
    · exact ⟨_, rfl, rfl, fun h => by cases h⟩
    · have hp := primeB_pr hb
      have hn : 1 ≤ n ∧ n ≤ 3 := by
        unfold sizeB at hs
        simp only [Bool.and_eq_true, decide_eq_true_eq] at hs
        omega
      have i9 := iter_up (body := fun s : Int × Int => impl_CountInvertible_l9 p (n : Int) s.1 s.2) (fun j => (cntF p n j, (j : Int))) n (s' := (cntF p n n, (n : Int))) (fun j hj => by
        show impl_CountInvertible_l9 p (n : Int) (cntF p n j) (j : Int) = _
        unfold impl_CountInvertible_l9
        rw [dtt (by omega), if_pos rfl, power_i hp hn.2, power_i hp (by omega)]
        simp only [Option.bind_some]
        rw [w64s (by omega)]
        rfl) (by
        show impl_CountInvertible_l9 p (n : Int) (cntF p n n) (n : Int) = _
        unfold impl_CountInvertible_l9
        rw [dff (by omega), if_neg (by decide)])
      have s9 := iter_up (body := fun s : Int × Int => spec_CountInvertible_l9 p (n : Int) s.1 s.2) (fun j => (p ^ j, (j : Int))) n (s' := (p ^ n, (n : Int))) (fun j hj => by
        show spec_CountInvertible_l9 p (n : Int) (p ^ j) (j : Int) = _
        unfold spec_CountInvertible_l9
        have := pow_bd hp (show j + 1 ≤ 3 by omega)
        rw [dtt (by omega), if_pos rfl, ps p j, w64_id (x := p ^ (j + 1)) (by omega) (by omega), w64s (by omega)]) (by
        show spec_CountInvertible_l9 p (n : Int) (p ^ n) (n : Int) = _
        unfold spec_CountInvertible_l9
        rw [dff (by omega), if_neg (by decide)])
      have s13 := iter_up (body := fun s : Int × Int × Int => spec_CountInvertible_l13 p (n : Int) (p ^ n) s.1 s.2.1 s.2.2) (fun j => (p ^ j, cntF p n j, (j : Int))) n (s' := (p ^ n, cntF p n n, (n : Int))) (fun j hj => by
        show spec_CountInvertible_l13 p (n : Int) (p ^ n) (p ^ j) (cntF p n j) (j : Int) = _
        unfold spec_CountInvertible_l13
        have := pow_bd hp (show j + 1 ≤ 3 by omega)
        rw [dtt (by omega), if_pos rfl, ps p j, w64_id (x := p ^ (j + 1)) (by omega) (by omega), w64s (by omega)]
        rfl) (by
        show spec_CountInvertible_l13 p (n : Int) (p ^ n) (p ^ n) (cntF p n n) (n : Int) = _
        unfold spec_CountInvertible_l13
        rw [dff (by omega), if_neg (by decide)])
      have e0 : (p ^ 0, ((0 : Nat) : Int)) = ((1 : Int), (0 : Int)) := by rw [Int.pow_zero]; rfl
      have e1 : (p ^ 0, cntF p n 0, ((0 : Nat) : Int)) = ((1 : Int), (1 : Int), (0 : Int)) := by rw [Int.pow_zero]; rfl
      have e2 : (cntF p n 0, ((0 : Nat) : Int)) = ((1 : Int), (0 : Int)) := rfl
      rw [e2] at i9
      rw [e0] at s9
      rw [e1] at s13
      refine ⟨(cntF p n n, 0), ?_, ?_, fun _ h1 => ?_⟩
      · simp only [Bool.not_true, Bool.false_eq_true, if_false, Option.bind_some]
        rw [i9]
        rfl
      · simp only [Bool.not_true, Bool.false_eq_true, if_false, Option.bind_some]
        rw [s9]
        simp only [Option.bind_some]
        rw [s13]
        rfl
      · have : n = 1 := by omega
        subst this
        show w64 (1 * w64 (p ^ 1 - p ^ 0)) = w64 (p - 1)
        have l := pr_le hp
        rw [Int.pow_zero, pw1 p, Int.one_mul, w64_id (x := p - 1) (by omega) (by omega), w64_id (x := p - 1) (by omega) (by omega)]
inductive InvCase (p : Int) (L : List (List Int)) : List (List Int) × Int → Bool × Int → Prop
  | bad : InvCase p L ([], 2) (false, 2)
  | none {n : Nat} : InvCase p L ([], 5) (false, 0)
  | some {n : Nat} {M' : Nat → List Int} (hp : pr p) (h : Sq p n L) (hg : gj p n n 0 (augM n L) = some M') (hB : Sq p n (outM n M')) : InvCase p L (outM n M', 0) (true, 0)
theorem inv_cases {p : Int} {L : List (List Int)} (hl : L.length ≤ 3) (h : ∀ x ∈ L, x.length ≤ 3) : ∃ r y, impl_InverseSquare p L = some r ∧ spec_InverseSquare p L = some r ∧ impl_IsInvertible p L = some y ∧ spec_IsInvertible p L = some y ∧ InvCase p L r y := by
  unfold impl_InverseSquare spec_InverseSquare impl_IsInvertible spec_IsInvertible
  rw [square_i p L (by omega) (fun x hx => by have := h x hx; omega), square_s p L (by omega) (fun x hx => by have := h x hx; omega)]
  simp only [Option.bind_some]
  cases hb : sqB p L
  · exact ⟨_, _, rfl, rfl, rfl, rfl, .bad⟩
  · obtain ⟨hp, hS⟩ := sqB_sq hb
    have e1 := invertible_i hp hS
    have e2 := inverse_sq hp hS
    cases hg : gj p L.length L.length 0 (augM L.length L) with
    | none =>
      rw [hg] at e1 e2
      rw [e1, e2]
      exact ⟨_, _, rfl, rfl, rfl, rfl, .none (n := 0)⟩
    | some M' =>
      rw [hg] at e1 e2
      obtain ⟨e3, e4⟩ := inverted_i hp hS hg
      have hB := out_sq hp e4 hS.n1 hS.n3
      rw [e1, e2]
      refine ⟨(outM L.length M', 0), (true, 0), ?_, rfl, rfl, rfl, .some hp hS hg hB⟩
      show ((impl_inverted p L).bind fun x7 => some (x7, (0 : Int))) = _
      rw [e3]
      rfl
theorem size_two (x y : Int) : impl_isSize [x, y] = some (sizeB x && sizeB y) := by
  unfold impl_isSize sizeB
  have e0 : impl_isSize_l1 [x, y] 0 = if decide (1 ≤ x) && decide (x ≤ 3) then some (.next 1) else some (.ret false) := by
    unfold impl_isSize_l1
    simp only [List.length_cons, List.length_nil, show decide ((0 : Int) < ((0 + 1 + 1 : Nat) : Int)) = true from rfl, if_true, show (0 ≤ (0 : Int) ∧ (0 : Int) < ((0 + 1 + 1 : Nat) : Int)) = True by simp, show gl 0 [x, y] 0 = x from rfl, show w64 ((0 : Int) + 1) = 1 from rfl]
    by_cases h1 : x < 1
    · rw [dtt h1, dff (show ¬ 1 ≤ x by omega)]; rfl
    · rw [dff h1, dtt (show 1 ≤ x by omega)]
      by_cases h2 : 3 < x
      · rw [dtt h2, dff (show ¬ x ≤ 3 by omega)]; rfl
      · rw [dff h2, dtt (show x ≤ 3 by omega)]; rfl
  have e1 : impl_isSize_l1 [x, y] 1 = if decide (1 ≤ y) && decide (y ≤ 3) then some (.next 2) else some (.ret false) := by
    unfold impl_isSize_l1
    simp only [List.length_cons, List.length_nil, show decide ((1 : Int) < ((0 + 1 + 1 : Nat) : Int)) = true from rfl, if_true, show (0 ≤ (1 : Int) ∧ (1 : Int) < ((0 + 1 + 1 : Nat) : Int)) = True by simp, show gl 0 [x, y] 1 = y from rfl, show w64 ((1 : Int) + 1) = 2 from rfl]
    by_cases h1 : y < 1
    · rw [dtt h1, dff (show ¬ 1 ≤ y by omega)]; rfl
    · rw [dff h1, dtt (show 1 ≤ y by omega)]
      by_cases h2 : 3 < y
      · rw [dtt h2, dff (show ¬ y ≤ 3 by omega)]; rfl
      · rw [dff h2, dtt (show y ≤ 3 by omega)]; rfl
  have e2 : impl_isSize_l1 [x, y] 2 = some (.stop 2) := by unfold impl_isSize_l1; rfl
  cases hb : decide (1 ≤ x) && decide (x ≤ 3)
  · rw [hb] at e0
    rw [iter_ret e0]; rfl
  · rw [hb] at e0
    rw [iter_next (s' := 1) e0]
    cases hc : decide (1 ≤ y) && decide (y ≤ 3)
    · rw [hc] at e1
      rw [iter_ret e1]; rfl
    · rw [hc] at e1
      rw [iter_next (s' := 2) e1, iter_stop e2]; rfl
theorem matrix_sq {p : Int} {n : Nat} {L : List (List Int)} (h : Sq p n L) : impl_isMatrix p (n : Int) (n : Int) L = some true := by
  have n3 := h.n3
  rw [matrix_i2 p n L (by rw [h.len]; omega) (fun x hx => by have := (h.row x hx).1; omega), h.len, dtt rfl, Bool.and_true]
  congr 1
  rw [List.all_eq_true]
  intro x hx
  obtain ⟨h1, h2⟩ := h.row x hx
  unfold rowB numB
  rw [dtt h1, Bool.true_and, List.all_eq_true]
  intro y hy
  rw [dtt (h2 y hy).1, dtt (h2 y hy).2]; rfl
theorem unit_product {p : Int} (hp : pr p) {n : Nat} {L : List (List Int)} {M' : Nat → List Int} (h : Sq p n L) (hB : Sq p n (outM n M')) (H : ∀ i j, i < n → j < n → cg p (sm (fun t => ge L i t * ge (outM n M') t j) n) (if i = j then 1 else 0)) : impl_PlainProduct p L (outM n M') = some (mkM n n (fun i j => if i = j then 1 else 0), 0) := by
  have n1 := h.n1
  have n3 := h.n3
  have hs : sizeB (n : Int) = true := by unfold sizeB; rw [dtt (by omega), dtt (by omega)]; rfl
  have hpB : primeB p = true := by unfold pr at hp; unfold primeB; simp only [Bool.or_eq_true, decide_eq_true_eq]; omega
  have r0 : (gl [] (outM n M') (0 : Int)).length = n := (hB.row _ (hB.mem (k := 0) (by omega))).1
  unfold impl_PlainProduct
  rw [prime_i, hpB, size_two, h.len, hB.len, hs]
  simp only [Option.bind_some, Bool.not_true, Bool.false_eq_true, if_false, Bool.and_self]
  rw [if_pos ⟨by omega, by omega⟩, r0, size_one, hs]
  simp only [Option.bind_some, Bool.not_true, Bool.false_eq_true, if_false]
  rw [matrix_sq h, matrix_sq hB]
  simp only [Option.bind_some, Bool.not_true, Bool.false_eq_true, if_false]
  have eL := mkM_eq h.len (fun x hx => (h.row x hx).1)
  have eB := mkM_eq hB.len (fun x hx => (hB.row x hx).1)
  rw [eL, eB, multiply_i hp (fun i j hi hj => sq_bd h hp hi hj) (fun i j hi hj => sq_bd hB hp hi hj) n3 n3 n1 n3]
  simp only [Option.bind_some]
  rw [mkM_congr fun i j hi hj => dot_unit hp (H i j hi hj)]
theorem unit_rows {n : Nat} (hn : n ≤ 3) (c : Int) : iter (fun s => laws_FnSquares_l65 (mkM n n (fun i j => if i = j then 1 else 0), c) s) 0 = some (.stop (n : Int)) := by
  have inner : ∀ i, i < n → iter (fun s => laws_FnSquares_l68 (mkM n n (fun i j => if i = j then 1 else 0), c) (i : Int) s) 0 = some (.stop (n : Int)) := fun i hi => by
    have := iter_up (body := fun s => laws_FnSquares_l68 (mkM n n (fun i j => if i = j then 1 else 0), c) (i : Int) s) (fun j => (j : Int)) n (s' := (n : Int)) (fun j hj => by
      show laws_FnSquares_l68 _ (i : Int) (j : Int) = _
      unfold laws_FnSquares_l68
      rw [mkM_len, dtt (by omega), if_pos rfl, if_pos ⟨by omega, by omega⟩, mkM_row hi, if_pos (by rw [List.length_map, List.length_range]; exact ⟨by omega, by omega⟩), gl_map' hj, w64s (by omega)]
      by_cases hij : i = j
      · subst hij
        simp
      · have : ¬ ((i : Int) = (j : Int)) := by omega
        simp [hij, this]) (by
      show laws_FnSquares_l68 _ (i : Int) (n : Int) = _
      unfold laws_FnSquares_l68
      rw [mkM_len, dff (by omega), if_neg (by decide)])
    exact this
  have := iter_up (body := fun s => laws_FnSquares_l65 (mkM n n (fun i j => if i = j then 1 else 0), c) s) (fun j => (j : Int)) n (s' := (n : Int)) (fun j hj => by
    show laws_FnSquares_l65 _ (j : Int) = _
    unfold laws_FnSquares_l65
    rw [mkM_len, dtt (by omega), if_pos rfl, inner j hj, w64s (by omega)]
    rfl) (by
    show laws_FnSquares_l65 _ (n : Int) = _
    unfold laws_FnSquares_l65
    rw [mkM_len, dff (by omega), if_neg (by decide)])
  exact this
theorem squares_yes (c : List UInt8) : laws_FnSquares c = some true := by
  unfold laws_FnSquares laws_big
  simp only [Option.bind_some]
  by_cases hb : (4096 : Int) < (c.length : Int)
  · rw [dtt hb, if_pos rfl]
  · rw [dff hb, if_neg (by decide)]
    have hc : c.length ≤ 4096 := by omega
    obtain ⟨x4, e4, hl, hle⟩ := draw_inverse hc
    obtain ⟨x8, x22, e8, e12, e22, e24, hI⟩ := inv_cases (p := x4.1) hl hle
    obtain ⟨x30, e30, h30, -⟩ := draw_count hc
    obtain ⟨x32, e32, e34, h32⟩ := counts (p := x30.1) h30
    have hll : laws_lists9 x8.1 x8.1 = some true := by
      cases hI with
      | bad => exact lists_refl _ (by simp) (fun y hy => by cases hy)
      | none => exact lists_refl _ (by simp) (fun y hy => by cases hy)
      | some hp h hg hB => exact lists_refl _ (by have := hB.len; have := hB.n3; dsimp only; omega) (fun y hy => by have := (hB.row y hy).1; have := hB.n3; omega)
    rw [e4]; simp only [Option.bind_some]
    rw [e8]; simp only [Option.bind_some]
    rw [e12]; simp only [Option.bind_some]
    rw [dff (fun h => h rfl), if_neg (by decide), hll]
    simp only [Option.bind_some, Bool.not_true, Bool.false_eq_true, if_false]
    rw [e22]; simp only [Option.bind_some]
    rw [e24]; simp only [Option.bind_some]
    rw [dff (fun h => h rfl), if_neg (by decide)]
    simp only [Option.bind_some, bne_self_eq_false, Bool.false_eq_true, if_false]
    rw [e30]; simp only [Option.bind_some]
    rw [e32]; simp only [Option.bind_some]
    rw [e34]; simp only [Option.bind_some]
    rw [dff (fun h => h rfl), if_neg (by decide)]
    simp only [Option.bind_some]
    rw [dff (fun h => h rfl), if_neg (by decide)]
    have e41 : (if decide (x32.2 = 0) = true then (if decide (x30.2 = 1) = true then some (decide (x32.1 ≠ w64 (x30.1 - 1))) else some false) else some false) = some false := by
      by_cases h1 : x32.2 = 0
      · rw [dtt h1, if_pos rfl]
        by_cases h2 : x30.2 = 1
        · rw [dtt h2, if_pos rfl, dff (fun h => h (h32 h1 h2))]
        · rw [dff h2, if_neg (by decide)]
      · rw [dff h1, if_neg (by decide)]
    rw [e41]
    simp only [Option.bind_some, Bool.false_eq_true, if_false]
    cases hI with
    | bad => rfl
    | none => rfl
    | @some n M' hp h hg hB =>
      obtain ⟨N', hN, hNL, hid⟩ := inv_inv hp h hg hB
      have hLl : laws_lists9 x4.2 x4.2 = some true := lists_refl _ (by omega) (fun y hy => by have := hle y hy; omega)
      obtain ⟨r, y, f8, -, -, -, hJ⟩ := inv_cases (p := x4.1) (L := outM n M') (by have := hB.len; have := hB.n3; omega) (fun y hy => by have := (hB.row y hy).1; have := hB.n3; omega)
      have f9 : impl_InverseSquare x4.1 (outM n M') = some (x4.2, 0) := by
        have hsq : sqB x4.1 (outM n M') = true := by
          have n1 := hB.n1
          have n3 := hB.n3
          unfold sqB
          rw [hB.len]
          have hpB : primeB x4.1 = true := by unfold pr at hp; unfold primeB; simp only [Bool.or_eq_true, decide_eq_true_eq]; omega
          have hs : sizeB (n : Int) = true := by unfold sizeB; rw [dtt (by omega), dtt (by omega)]; rfl
          rw [hpB, hs, Bool.true_and, Bool.true_and, List.all_eq_true]
          intro x hx
          obtain ⟨h1, h2⟩ := hB.row x hx
          unfold rowB numB
          rw [dtt h1, Bool.true_and, List.all_eq_true]
          intro y hy
          rw [dtt (h2 y hy).1, dtt (h2 y hy).2]; rfl
        unfold impl_InverseSquare
        have n3 := hB.n3
        rw [square_i x4.1 _ (by rw [hB.len]; omega) (fun x hx => by have := (hB.row x hx).1; omega), hsq, invertible_i hp hB, hN, (inverted_i hp hB hN).1, hNL]
        rfl
      dsimp only
      rw [dtt (show (0 : Int) = 0 from rfl), if_pos rfl]
      simp only [Option.bind_some, bne_self_eq_false, Bool.false_eq_true, if_false]
      rw [dff (fun h => h rfl), if_neg (by decide), f9]
      simp only [Option.bind_some]
      rw [unit_product hp h hB hid]
      simp only [Option.bind_some]
      rw [dff (fun h => h rfl), if_neg (by decide), hLl]
      simp only [Option.bind_some, Bool.not_true, Bool.false_eq_true, if_false]
      rw [unit_rows hB.n3]
      rfl
end Go.Proofs.YtB
