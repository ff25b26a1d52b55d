/- Plain laws: the inverse of a square, from both sides. -/
import Derived.Test.YtbhaeajdabgnhaaSqPu50
set_option linter.unusedVariables false
set_option linter.unusedSimpArgs false
namespace Go.Proofs.YtB
open Go Go.RowKit Go.Proofs
theorem aug_l {p : Int} {n : Nat} {L : List (List Int)} (h : Sq p n L) {k l : Nat} (hk : k < n) (hl : l < n) : gl 0 (augM n L k) (l : Int) = ge L k l := by
  unfold augM ge
  have hx := (h.row _ (h.mem hk)).1
  generalize gl [] L (k : Int) = X at hx ⊢
  unfold gl
  rw [Int.toNat_natCast, List.getD_eq_getElem?_getD, List.getD_eq_getElem?_getD, List.getElem?_append_left (by omega)]
theorem aug_r {p : Int} {n : Nat} {L : List (List Int)} (h : Sq p n L) {k t : Nat} (hk : k < n) (ht : t < n) : gl 0 (augM n L k) ((n + t : Nat) : Int) = if k = t then 1 else 0 := by
  unfold augM
  have hx := (h.row _ (h.mem hk)).1
  generalize gl [] L (k : Int) = X at hx ⊢
  have e : gl 0 (X ++ unitR n k) ((n + t : Nat) : Int) = gl 0 (unitR n k) (t : Int) := by
    unfold gl
    rw [Int.toNat_natCast, Int.toNat_natCast, List.getD_eq_getElem?_getD, List.getD_eq_getElem?_getD, List.getElem?_append_right (by omega), hx, Nat.add_sub_cancel_left]
  rw [e]
  unfold unitR
  rw [gl_map, if_pos ht]
theorem out_get {n : Nat} {M : Nat → List Int} {k t : Nat} (hk : k < n) : ge (outM n M) k t = gl 0 (M k) ((n + t : Nat) : Int) := by
  unfold ge
  have : gl [] (outM n M) (k : Int) = (M k).drop n := by
    rw [gl_nat (by simp [outM]; exact hk)]
    simp [outM]
  rw [this]
  unfold gl
  rw [Int.toNat_natCast, Int.toNat_natCast, List.getD_eq_getElem?_getD, List.getD_eq_getElem?_getD, List.getElem?_drop]
theorem ph2 (w : Nat → Int) (n : Nat) (X : List Int) : ph w (2 * n) X = sm (fun l => w l * gl 0 X (l : Int)) n + sm (fun t => w (n + t) * gl 0 X ((n + t : Nat) : Int)) n := by
  unfold ph
  rw [show 2 * n = n + n by omega, sm_split]
section
variable {p : Int} {n : Nat} {L : List (List Int)} {M' : Nat → List Int}
theorem ker_right (hp : pr p) (h : Sq p n L) (hg : gj p n n 0 (augM n L) = some M') (v : Nat → Int) (hv : ∀ k, k < n → p ∣ sm (fun t => ge (outM n M') k t * v t) n) : ∀ t, t < n → p ∣ v t := by
  have H := gj_iff hp (show n ≤ 2 * n by omega) (fun l => if l < n then 0 else v (l - n)) n 0 _ _ (by omega) (h.aug hp) hg
  have e : ∀ X, ph (fun l => if l < n then 0 else v (l - n)) (2 * n) X = sm (fun t => gl 0 X ((n + t : Nat) : Int) * v t) n := fun X => by
    rw [ph2, sm_congr (g := fun _ => 0) (fun t ht => by rw [if_pos ht, Int.zero_mul]), sm_zero, Int.zero_add]
    exact sm_congr fun t ht => by rw [if_neg (by omega), Nat.add_sub_cancel_left, Int.mul_comm]
  have H2 := H.2 (fun k hk => by
    rw [e, sm_congr (g := fun t => ge (outM n M') k t * v t) (fun t ht => by rw [out_get hk])]
    exact hv k hk)
  intro t ht
  have := H2 t ht
  rw [e, sm_congr (g := fun s => (if t = s then 1 else 0) * v s) (fun s hs => by rw [aug_r h ht hs]), sm_one v ht] at this
  exact this
theorem left_id (hp : pr p) (h : Sq p n L) (hg : gj p n n 0 (augM n L) = some M') {k j : Nat} (hk : k < n) (hj : j < n) : cg p (sm (fun t => ge (outM n M') k t * ge L t j) n) (if k = j then 1 else 0) := by
  have H := gj_iff hp (show n ≤ 2 * n by omega) (fun l => if l < n then (if j = l then 1 else 0) else -(ge L (l - n) j)) n 0 _ _ (by omega) (h.aug hp) hg
  have hU := gj_un hp (show n ≤ 2 * n by omega) n 0 _ _ (by omega) (h.aug hp) (fun t ht => by omega) hg
  have e : ∀ X, ph (fun l => if l < n then (if j = l then 1 else 0) else -(ge L (l - n) j)) (2 * n) X = gl 0 X (j : Int) - sm (fun t => gl 0 X ((n + t : Nat) : Int) * ge L t j) n := fun X => by
    rw [ph2, sm_congr (g := fun l => (if j = l then 1 else 0) * gl 0 X (l : Int)) (fun t ht => by rw [if_pos ht]), sm_one (fun l => gl 0 X (l : Int)) hj,
      sm_congr (g := fun t => (-1) * (gl 0 X ((n + t : Nat) : Int) * ge L t j)) (fun t ht => by rw [if_neg (by omega), Nat.add_sub_cancel_left, Int.neg_mul, Int.neg_mul, Int.one_mul, Int.mul_comm]), sm_mul]
    omega
  have H2 := H.1 (fun k hk => by
    rw [e, aug_l h hk hj, sm_congr (g := fun s => (if k = s then 1 else 0) * ge L s j) (fun s hs => by rw [aug_r h hk hs]), sm_one (fun s => ge L s j) hk, Int.sub_self]
    exact Int.dvd_zero p)
  have := H2 k hk
  rw [e, hU j hj k hk, sm_congr (g := fun t => ge (outM n M') k t * ge L t j) (fun t ht => by rw [out_get hk])] at this
  exact cg_symm this
theorem sq_bd (h : Sq p n L) (hp : pr p) {i j : Nat} (hi : i < n) (hj : j < n) : 0 ≤ ge L i j ∧ ge L i j < p := by
  have l := pr_le hp
  unfold ge
  exact gl_bd l.1 (h.row _ (h.mem hi)).2 j
theorem inv_inv (hp : pr p) (h : Sq p n L) (hg : gj p n n 0 (augM n L) = some M') (hB : Sq p n (outM n M')) : ∃ N', gj p n n 0 (augM n (outM n M')) = some N' ∧ outM n N' = L ∧ ∀ i j, i < n → j < n → cg p (sm (fun t => ge L i t * ge (outM n M') t j) n) (if i = j then 1 else 0) := by
  have hp2 : 2 ≤ p := by unfold pr at hp; omega
  cases hN : gj p n n 0 (augM n (outM n M')) with
  | none =>
    exfalso
    obtain ⟨w, w1, ⟨t, ht, w2⟩, w3⟩ := gj_fail hp (show n ≤ 2 * n by omega) n 0 _ (by omega) (hB.aug hp) (fun t ht => by omega) hN
    have := ker_right hp h hg w (fun k hk => by
      have := w3 k hk
      rw [ph2, sm_congr (f := fun t => w (n + t) * _) (g := fun _ => 0) (fun t ht => by rw [w1 _ (by omega), Int.zero_mul]), sm_zero, Int.add_zero, sm_congr (g := fun t => ge (outM n M') k t * w t) (fun t ht => by rw [aug_l hB hk ht, Int.mul_comm])] at this
      exact this) t ht
    rw [w2] at this
    obtain ⟨q, hq⟩ := this
    rcases Int.lt_or_le q 1 with h1 | h1
    · have : p * q ≤ p * 0 := Int.mul_le_mul_of_nonneg_left (by omega) (by omega)
      omega
    · have : p * 1 ≤ p * q := Int.mul_le_mul_of_nonneg_left (by omega) (by omega)
      omega
  | some N' =>
    have hC : Sq p n (outM n N') := out_sq hp (inverted_i hp hB hN).2 h.n1 h.n3
    have key : ∀ i j, i < n → j < n → ge (outM n N') i j = ge L i j := fun i j hi hj => by
      have b1 := sq_bd hC hp hi hj
      have b2 := sq_bd h hp hi hj
      refine cg_eq ?_ b1.1 b1.2 b2.1 b2.2
      have s1 : cg p (sm (fun t => ge (outM n N') i t * sm (fun s => ge (outM n M') t s * ge L s j) n) n) (ge (outM n N') i j) := by
        have : sm (fun t => (if j = t then 1 else 0) * ge (outM n N') i t) n = ge (outM n N') i j := sm_one (fun t => ge (outM n N') i t) hj
        rw [← this]
        refine sm_cg fun t ht => ?_
        rw [Int.mul_comm (if j = t then 1 else 0)]
        refine cg_mull _ ?_
        have := left_id hp h hg ht hj
        simpa [eq_comm] using this
      have s2 : sm (fun t => ge (outM n N') i t * sm (fun s => ge (outM n M') t s * ge L s j) n) n = sm (fun s => sm (fun t => ge (outM n N') i t * ge (outM n M') t s) n * ge L s j) n := by
        rw [sm_congr (g := fun t => sm (fun s => ge (outM n N') i t * (ge (outM n M') t s * ge L s j)) n) (fun t ht => by rw [sm_mul]), sm_swap]
        refine sm_congr fun s hs => ?_
        rw [Int.mul_comm, ← sm_mul]
        refine sm_congr fun t ht => ?_
        rw [← Int.mul_assoc, Int.mul_comm]
      have s3 : cg p (sm (fun s => sm (fun t => ge (outM n N') i t * ge (outM n M') t s) n * ge L s j) n) (ge L i j) := by
        have : sm (fun s => (if i = s then 1 else 0) * ge L s j) n = ge L i j := sm_one (fun s => ge L s j) hi
        rw [← this]
        exact sm_cg fun s hs => cg_mul _ (left_id hp hB hN hi hs)
      rw [s2] at s1
      exact cg_trans (cg_symm s1) s3
    have hE : outM n N' = L := by
      rw [mkM_eq hC.len (fun x hx => (hC.row x hx).1), mkM_congr key, ← mkM_eq h.len (fun x hx => (h.row x hx).1)]
    refine ⟨N', rfl, hE, fun i j hi hj => ?_⟩
    have := left_id hp hB hN hi hj
    rwa [hE] at this
end
/-- the product that the program forms -/
theorem dot_cg (p : Int) (g h : Nat → Nat → Int) (i l : Nat) : ∀ n, cg p (dotF p g h i l n) (sm (fun t => g i t * h t l) n)
  | 0 => cg_refl _ _
  | n + 1 => by
    unfold dotF
    exact cg_trans (cg_mod _ _) (cg_add (dot_cg p g h i l n) (cg_refl _ _))
theorem dot_unit {p : Int} (hp : pr p) {n : Nat} {g h : Nat → Nat → Int} {i j : Nat} (H : cg p (sm (fun t => g i t * h t j) n) (if i = j then 1 else 0)) : dotF p g h i j n = if i = j then 1 else 0 := by
  have hb := dotF_bd hp g h i j n
  have hp2 : 2 ≤ p := by unfold pr at hp; omega
  refine cg_eq (cg_trans (dot_cg p g h i j n) H) hb.1 hb.2 ?_ ?_
  · split <;> omega
  · split <;> omega
end Go.Proofs.YtB
