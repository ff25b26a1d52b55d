/- Plain laws: matrices in both forms: transposed, multiplied, forms as matrices. -/
import Derived.Test.YtbhaeajdabgnhaaSqPu43
import Derived.Test.YtbhaeajdabgnhaaSqG2
set_option linter.unusedVariables false
set_option linter.unusedSimpArgs false
namespace Go.Proofs.YtB
open Go Go.RowKit Go.Proofs
def mkM (r c : Nat) (g : Nat → Nat → Int) : List (List Int) := (List.range r).map fun i => (List.range c).map fun j => g i j
def ge (L : List (List Int)) (i j : Nat) : Int := gl 0 (gl [] L (i : Int)) (j : Int)
theorem mkM_len (r c : Nat) (g : Nat → Nat → Int) : (mkM r c g).length = r := by simp [mkM]
theorem mkM_row {r c : Nat} {g : Nat → Nat → Int} {i : Nat} (hi : i < r) : gl [] (mkM r c g) (i : Int) = (List.range c).map fun j => g i j := by
  rw [gl_nat (by rw [mkM_len]; exact hi)]
  simp [mkM]
theorem mkM_row0 {r c : Nat} {g : Nat → Nat → Int} (hr : 0 < r) : gl [] (mkM r c g) (0 : Int) = (List.range c).map fun j => g 0 j := mkM_row (i := 0) hr
theorem gl_map' {n : Nat} {g : Nat → Int} {l : Nat} (h : l < n) : gl 0 ((List.range n).map g) (l : Int) = g l := by rw [gl_map, if_pos h]
theorem mkM_eq {L : List (List Int)} {r c : Nat} (hL : L.length = r) (h : ∀ x ∈ L, x.length = c) : L = mkM r c (ge L) := by
  apply List.ext_getElem
  · rw [mkM_len, hL]
  · intro i h1 h2
    have hx := h _ (List.getElem_mem h1)
    apply List.ext_getElem
    · simp [mkM, hx]
    · intro j h3 h4
      simp only [mkM, List.getElem_map, List.getElem_range, ge]
      rw [gl_nat h1, gl_nat h3]
theorem mkM_congr {r c : Nat} {g h : Nat → Nat → Int} (H : ∀ i j, i < r → j < c → g i j = h i j) : mkM r c g = mkM r c h := by
  unfold mkM
  refine List.map_congr_left fun i hi => List.map_congr_left fun j hj => H i j (List.mem_range.1 hi) (List.mem_range.1 hj)
theorem snoc_map {α : Type} {n : Nat} (g : Nat → α) : (List.range (n + 1)).map g = (List.range n).map g ++ [g n] := by
  rw [List.range_succ, List.map_append]; rfl
def dotF (p : Int) (g h : Nat → Nat → Int) (i l : Nat) : Nat → Int
  | 0 => 0
  | j + 1 => (dotF p g h i l j + g i j * h j l) % p
def Bd (p : Int) (r c : Nat) (g : Nat → Nat → Int) : Prop := ∀ i j, i < r → j < c → 0 ≤ g i j ∧ g i j < p
theorem dotF_bd {p : Int} (hp : pr p) (g h : Nat → Nat → Int) (i l : Nat) : ∀ j, 0 ≤ dotF p g h i l j ∧ dotF p g h i l j < p
  | 0 => by have := pr_le hp; unfold dotF; omega
  | j + 1 => by
    have := pr_le hp
    unfold dotF
    exact ⟨Int.emod_nonneg _ (by omega), Int.emod_lt_of_pos _ this.1⟩
theorem dotstep {p x a b : Int} (hp : pr p) (x0 : 0 ≤ x) (x1 : x < p) (a0 : 0 ≤ a) (a1 : a < p) (b0 : 0 ≤ b) (b1 : b < p) : (w64 (x + (w64 (a * b)))).tmod p = (x + a * b) % p := by
  have l := pr_le hp
  have hp5 : p ≤ 5 := by unfold pr at hp; omega
  have hm := mul_bd hp a0 a1 b0 b1
  rw [w64_lit (x := a * b) (by omega) (by omega), w64_lit (by omega) (by omega), Int.tmod_eq_emod_of_nonneg (by omega)]
theorem gl_seti {X : List Int} {k : Nat} {v : Int} (hk : k < X.length) : gl 0 (X.set k v) (k : Int) = v := by
  rw [gl_nat (by rw [List.length_set]; exact hk)]
  simp
theorem mul_l15 {p : Int} (hp : pr p) {r n c : Nat} {g h : Nat → Nat → Int} (hg : Bd p r n g) (hh : Bd p n c h) (hn : n ≤ 3) {i l : Nat} (hi : i < r) (hl : l < c) {X : List Int} (hX : X.length = c) (hX0 : gl 0 X (l : Int) = 0) :
    iter (fun s : Int × List Int => impl_multiply_l15 p (mkM r n g) (mkM n c h) (i : Int) (l : Int) s.1 s.2) (0, X) = some (.stop ((n : Int), X.set l (dotF p g h i l n))) := by
  have lp := pr_le hp
  have := iter_up (body := fun s : Int × List Int => impl_multiply_l15 p (mkM r n g) (mkM n c h) (i : Int) (l : Int) s.1 s.2) (fun j => ((j : Int), X.set l (dotF p g h i l j))) n (s' := ((n : Int), X.set l (dotF p g h i l n))) (fun j hj => by
    show impl_multiply_l15 p (mkM r n g) (mkM n c h) (i : Int) (l : Int) (j : Int) (X.set l (dotF p g h i l j)) = _
    unfold impl_multiply_l15
    have b1 := dotF_bd hp g h i l j
    have b2 := hg i j hi hj
    have b3 := hh j l hj hl
    rw [mkM_row hi, List.length_map, List.length_range, dtt (by omega), if_pos rfl, if_pos ⟨by omega, by omega⟩, if_pos (by rw [List.length_set]; exact ⟨by omega, by omega⟩), mkM_len, if_pos ⟨by omega, by omega⟩, mkM_row hj, List.length_map, List.length_range, if_pos ⟨by omega, by omega⟩, if_pos (show p ≠ 0 by omega), w64s (by omega), gl_seti (by omega), gl_map' hj, gl_map' hl, dotstep hp b1.1 b1.2 b2.1 b2.2 b3.1 b3.2, Int.toNat_natCast, List.set_set]
    rfl) (by
    show impl_multiply_l15 p (mkM r n g) (mkM n c h) (i : Int) (l : Int) (n : Int) _ = _
    unfold impl_multiply_l15
    rw [mkM_row hi, List.length_map, List.length_range, dff (by omega), if_neg (by decide)])
  have h0 : X.set l (dotF p g h i l 0) = X := by
    have : dotF p g h i l 0 = gl 0 X (l : Int) := by rw [hX0]; rfl
    rw [this, gl_nat (by omega)]
    exact List.set_getElem_self (by omega)
  rw [h0] at this
  exact this
theorem zeros_get {c t : Nat} : gl 0 (List.replicate c (0 : Int)) (t : Int) = 0 := by
  unfold gl
  rw [Int.toNat_natCast, List.getD_eq_getElem?_getD, List.getElem?_replicate]
  split <;> rfl
theorem mul_row {p : Int} (hp : pr p) {r n c : Nat} {g h : Nat → Nat → Int} (hg : Bd p r n g) (hh : Bd p n c h) (hn : n ≤ 3) (hn1 : 1 ≤ n) (hc : c ≤ 3) {i : Nat} (hi : i < r) :
    iter (fun s : Int × List Int => impl_multiply_l11 p (mkM r n g) (mkM n c h) (i : Int) s.1 s.2) (0, List.replicate c 0) = some (.stop ((c : Int), (List.range c).map fun l => dotF p g h i l n)) := by
  have hS : ((List.range c).map fun l => dotF p g h i l n).length = c := by simp
  have := iter_up (body := fun s : Int × List Int => impl_multiply_l11 p (mkM r n g) (mkM n c h) (i : Int) s.1 s.2) (fun l => ((l : Int), ((List.range c).map fun l => dotF p g h i l n).take l ++ (List.replicate c (0 : Int)).drop l)) c (s' := ((c : Int), (List.range c).map fun l => dotF p g h i l n)) (fun l hl => by
    show impl_multiply_l11 p (mkM r n g) (mkM n c h) (i : Int) (l : Int) _ = _
    unfold impl_multiply_l11
    rw [mkM_row0 (by omega), List.length_map, List.length_range, Int.toNat_natCast, List.length_replicate, dtt (by omega), if_pos rfl, mul_l15 hp hg hh hn hi hl (by simp; omega) (by rw [mix_get (by simp; omega) (by simp)]; exact zeros_get)]
    simp only [Option.bind_some]
    rw [w64s (by omega), mix_set (by simp; omega) (by simp) (by exact gl_map' hl)]) (by
    show impl_multiply_l11 p (mkM r n g) (mkM n c h) (i : Int) (c : Int) _ = _
    unfold impl_multiply_l11
    rw [mkM_row0 (by omega), List.length_map, List.length_range, Int.toNat_natCast, List.length_replicate, dff (by omega), if_neg (by decide), List.take_of_length_le (by omega), List.drop_of_length_le (by simp), List.append_nil])
  simpa using this
theorem multiply_i {p : Int} (hp : pr p) {r n c : Nat} {g h : Nat → Nat → Int} (hg : Bd p r n g) (hh : Bd p n c h) (hr : r ≤ 3) (hn : n ≤ 3) (hn1 : 1 ≤ n) (hc : c ≤ 3) : impl_multiply p (mkM r n g) (mkM n c h) = some (mkM r c fun i l => dotF p g h i l n) := by
  have := iter_up (body := fun s : Int × List (List Int) => impl_multiply_l1 p (mkM r n g) (mkM n c h) s.1 s.2) (fun i => ((i : Int), (List.range i).map fun i => (List.range c).map fun l => dotF p g h i l n)) r (s' := ((r : Int), mkM r c fun i l => dotF p g h i l n)) (fun i hi => by
    show impl_multiply_l1 p (mkM r n g) (mkM n c h) (i : Int) _ = _
    unfold impl_multiply_l1
    rw [mkM_len, dtt (by omega), if_pos rfl, if_pos ⟨by omega, by omega⟩, mkM_len, if_pos ⟨by omega, by omega⟩, mkM_row0 (by omega), List.length_map, List.length_range, if_pos ⟨by omega, by omega⟩, Int.toNat_natCast, mul_row hp hg hh hn hn1 hc hi]
    simp only [Option.bind_some]
    rw [if_pos (by simp; omega), w64s (by omega), snoc_map]) (by
    show impl_multiply_l1 p (mkM r n g) (mkM n c h) (r : Int) _ = _
    unfold impl_multiply_l1
    rw [mkM_len, dff (by omega), if_neg (by decide)]
    rfl)
  unfold impl_multiply
  have h0 : (((0 : Nat) : Int), (List.range 0).map fun i => (List.range c).map fun l => dotF p g h i l n) = (0, []) := by simp
  rw [h0] at this
  rw [this]
  rfl
end Go.Proofs.YtB
