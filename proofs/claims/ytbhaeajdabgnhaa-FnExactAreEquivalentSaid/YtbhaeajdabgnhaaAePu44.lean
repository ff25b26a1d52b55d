/- Plain laws: matrices in both forms: transposed, multiplied, forms as matrices. -/
import Derived.Test.YtbhaeajdabgnhaaAePu43
import Derived.Test.YtbhaeajdabgnhaaAeG2
set_option linter.unusedVariables false
set_option linter.unusedSimpArgs false
namespace Go.Proofs.YtB
open Go Go.RowKit Go.Proofs
def mkM (r c : Nat) (g : Nat → Nat → Int) : List (List Int) := (List.range r).map fun i => (List.range c).map fun j => g i j
def ge (L : List (List Int)) (i j : Nat) : Int := gl 0 (gl [] L (i : Int)) (j : Int)
theorem mkM_len (r c : Nat) (g : Nat → Nat → Int) : (mkM r c g).length = r := by simp [mkM]
theorem mkM_row {r c : Nat} {g : Nat → Nat → Int} {i : Nat} (hi : i < r) : gl [] (mkM r c g) (i : Int) = (List.range c).map fun j => g i j := by
  rw [gl_nat (by rw [mkM_len]; exact hi)]
  simp [mkM]
theorem mkM_row0 {r c : Nat} {g : Nat → Nat → Int} (hr : 0 < r) : gl [] (mkM r c g) (0 : Int) = (List.range c).map fun j => g 0 j := mkM_row (i := 0) hr
theorem gl_map' {n : Nat} {g : Nat → Int} {l : Nat} (h : l < n) : gl 0 ((List.range n).map g) (l : Int) = g l := by rw [gl_map, if_pos h]
theorem mkM_eq {L : List (List Int)} {r c : Nat} (hL : L.length = r) (h : ∀ x ∈ L, x.length = c) : L = mkM r c (ge L) := by
  apply List.ext_getElem
  · rw [mkM_len, hL]
  · intro i h1 h2
    have hx := h _ (List.getElem_mem h1)
    apply List.ext_getElem
    · simp [mkM, hx]
    · intro j h3 h4
      simp only [mkM, List.getElem_map, List.getElem_range, ge]
      rw [gl_nat h1, gl_nat h3]
theorem snoc_map {α : Type} {n : Nat} (g : Nat → α) : (List.range (n + 1)).map g = (List.range n).map g ++ [g n] := by
  rw [List.range_succ, List.map_append]; rfl
theorem tr_l8 {r c : Nat} {g : Nat → Nat → Int} (hr : r ≤ 3) {j : Nat} (hj : j < c) : iter (fun s : Int × List Int => impl_transposed_l8 (mkM r c g) (j : Int) s.1 s.2) (0, []) = some (.stop ((r : Int), (List.range r).map fun i => g i j)) := by
  have := iter_up (body := fun s : Int × List Int => impl_transposed_l8 (mkM r c g) (j : Int) s.1 s.2) (fun t => ((t : Int), (List.range t).map fun i => g i j)) r (s' := ((r : Int), (List.range r).map fun i => g i j)) (fun t ht => by
    show impl_transposed_l8 (mkM r c g) (j : Int) (t : Int) _ = _
    unfold impl_transposed_l8
    rw [mkM_len, dtt (by omega), if_pos rfl, if_pos ⟨by omega, by omega⟩, mkM_row ht, if_pos (by rw [List.length_map, List.length_range]; exact ⟨by omega, by omega⟩), if_pos (by simp; omega), w64s (by omega), gl_map' hj, snoc_map]) (by
    show impl_transposed_l8 (mkM r c g) (j : Int) (r : Int) _ = _
    unfold impl_transposed_l8
    rw [mkM_len, dff (by omega), if_neg (by decide)])
  simpa using this
theorem transposed_i {r c : Nat} {g : Nat → Nat → Int} (hr : r ≤ 3) (hr1 : 1 ≤ r) (hc : c ≤ 3) : impl_transposed (mkM r c g) = some (mkM c r fun i j => g j i) := by
  have := iter_up (body := fun s : Int × List (List Int) => impl_transposed_l3 (mkM r c g) s.1 s.2) (fun t => ((t : Int), (List.range t).map fun j => (List.range r).map fun i => g i j)) c (s' := ((c : Int), mkM c r fun i j => g j i)) (fun t ht => by
    show impl_transposed_l3 (mkM r c g) (t : Int) _ = _
    unfold impl_transposed_l3
    rw [mkM_row0 (by omega), List.length_map, List.length_range, dtt (by omega), if_pos rfl, tr_l8 hr ht]
    simp only [Option.bind_some]
    rw [if_pos (by simp; omega), w64s (by omega), snoc_map]) (by
    show impl_transposed_l3 (mkM r c g) (c : Int) _ = _
    unfold impl_transposed_l3
    rw [mkM_row0 (by omega), List.length_map, List.length_range, dff (by omega), if_neg (by decide)]
    rfl)
  unfold impl_transposed
  rw [mkM_len, if_pos ⟨by omega, by omega⟩]
  have h0 : (((0 : Nat) : Int), (List.range 0).map fun j => (List.range r).map fun i => g i j) = (0, []) := by simp
  rw [h0] at this
  rw [this]
  rfl
theorem fl_l6 {n : Nat} {g : Nat → Nat → Int} (hn : n ≤ 3) {j : Nat} (hj : j < n) : iter (fun s : Int × List Int => spec_l04Flip_l6 (mkM n n g) (j : Int) s.1 s.2) (0, []) = some (.stop ((n : Int), (List.range n).map fun i => g i j)) := by
  have := iter_up (body := fun s : Int × List Int => spec_l04Flip_l6 (mkM n n g) (j : Int) s.1 s.2) (fun t => ((t : Int), (List.range t).map fun i => g i j)) n (s' := ((n : Int), (List.range n).map fun i => g i j)) (fun t ht => by
    show spec_l04Flip_l6 (mkM n n g) (j : Int) (t : Int) _ = _
    unfold spec_l04Flip_l6
    rw [mkM_len, dtt (by omega), if_pos rfl, if_pos ⟨by omega, by omega⟩, mkM_row ht, if_pos (by rw [List.length_map, List.length_range]; exact ⟨by omega, by omega⟩), if_pos (by simp; omega), w64s (by omega), gl_map' hj, snoc_map]) (by
    show spec_l04Flip_l6 (mkM n n g) (j : Int) (n : Int) _ = _
    unfold spec_l04Flip_l6
    rw [mkM_len, dff (by omega), if_neg (by decide)])
  simpa using this
theorem flip_s {n : Nat} {g : Nat → Nat → Int} (hn : n ≤ 3) : spec_l04Flip (mkM n n g) = some (mkM n n fun i j => g j i) := by
  have := iter_up (body := fun s : Int × List (List Int) => spec_l04Flip_l1 (mkM n n g) s.1 s.2) (fun t => ((t : Int), (List.range t).map fun j => (List.range n).map fun i => g i j)) n (s' := ((n : Int), mkM n n fun i j => g j i)) (fun t ht => by
    show spec_l04Flip_l1 (mkM n n g) (t : Int) _ = _
    unfold spec_l04Flip_l1
    rw [mkM_len, dtt (by omega), if_pos rfl, fl_l6 hn ht]
    simp only [Option.bind_some]
    rw [if_pos (by simp; omega), w64s (by omega), snoc_map]) (by
    show spec_l04Flip_l1 (mkM n n g) (n : Int) _ = _
    unfold spec_l04Flip_l1
    rw [mkM_len, dff (by omega), if_neg (by decide)]
    rfl)
  unfold spec_l04Flip
  have h0 : (((0 : Nat) : Int), (List.range 0).map fun j => (List.range n).map fun i => g i j) = (0, []) := by simp
  rw [h0] at this
  rw [this]
  rfl
theorem mat_mkM (f : Form) (r c : Nat) : mat f r c = mkM r c fun i j => ent f (i * c + j) := rfl
theorem rows_l6 (f : Form) {r c i : Nat} (hr : r ≤ 3) (hc : c ≤ 3) (hi : i < r) : iter (fun s : Int × List Int => spec_l04Rows_l6 f (c : Int) (i : Int) s.1 s.2) (0, []) = some (.stop ((c : Int), mrow f c i)) := by
  have h1 : i * c + c ≤ r * c := by rw [← Nat.succ_mul]; exact Nat.mul_le_mul_right _ hi
  have h9 := rc_le hr hc
  have := iter_up (body := fun s : Int × List Int => spec_l04Rows_l6 f (c : Int) (i : Int) s.1 s.2) (fun j => ((j : Int), (List.range j).map fun t => ent f (i * c + t))) c (s' := ((c : Int), mrow f c i)) (fun j hj => by
    show spec_l04Rows_l6 f (c : Int) (i : Int) (j : Int) _ = _
    unfold spec_l04Rows_l6
    have e : w64 ((w64 ((c : Int) * (i : Int))) + (j : Int)) = ((i * c + j : Nat) : Int) := by
      rw [Int.mul_comm, w64_mul (by omega) hc, w64_id (by omega) (by omega)]; omega
    rw [dtt (by omega), if_pos rfl, e, if_pos ⟨by omega, by omega⟩, if_pos (by simp; omega), w64s (by omega), List.range_succ, List.map_append]
    rfl) (by
    show spec_l04Rows_l6 f (c : Int) (i : Int) (c : Int) _ = _
    unfold spec_l04Rows_l6
    rw [dff (by omega), if_neg (by decide)]
    rfl)
  simpa using this
theorem rows_s (f : Form) {r c : Nat} (hr : r ≤ 3) (hc : c ≤ 3) : spec_l04Rows f (r : Int) (c : Int) = some (mat f r c) := by
  have := iter_up (body := fun s : Int × List (List Int) => spec_l04Rows_l1 f (r : Int) (c : Int) s.1 s.2) (fun j => ((j : Int), (List.range j).map (mrow f c))) r (s' := ((r : Int), mat f r c)) (fun j hj => by
    show spec_l04Rows_l1 f (r : Int) (c : Int) (j : Int) _ = _
    unfold spec_l04Rows_l1
    rw [dtt (by omega), if_pos rfl, rows_l6 f hr hc hj]
    simp only [Option.bind_some]
    rw [if_pos (by simp; omega), w64s (by omega), snoc_map]) (by
    show spec_l04Rows_l1 f (r : Int) (c : Int) (r : Int) _ = _
    unfold spec_l04Rows_l1
    rw [dff (by omega), if_neg (by decide)]
    rfl)
  unfold spec_l04Rows
  have h0 : (((0 : Nat) : Int), (List.range 0).map (mrow f c)) = (0, []) := by simp
  rw [h0] at this
  rw [this]
  rfl
/-- the form with g's numbers -/
def formM (r c : Nat) (g : Nat → Nat → Int) : Form := Vector.ofFn fun t : Fin 9 => if t.1 < r * c then u8 (g (t.1 / c) (t.1 % c)) else 0
theorem mkM_flat (r c : Nat) (g : Nat → Nat → Int) (hc : 0 < c) : (mkM r c g).flatten = (List.range (r * c)).map fun t => g (t / c) (t % c) := by
  induction r with
  | zero => simp [mkM]
  | succ r ih =>
    have e : mkM (r + 1) c g = mkM r c g ++ [(List.range c).map fun j => g r j] := by unfold mkM; rw [snoc_map]
    rw [e, List.flatten_append, ih, Nat.succ_mul, List.range_add, List.map_append, List.map_map]
    congr 1
    simp only [List.flatten_cons, List.flatten_nil, List.append_nil]
    refine List.map_congr_left fun j hj => ?_
    have hj := List.mem_range.1 hj
    simp only [Function.comp]
    have e1 : (r * c + j) / c = r := by rw [Nat.mul_comm, Nat.mul_add_div hc, Nat.div_eq_of_lt hj]; omega
    have e2 : (r * c + j) % c = j := by rw [Nat.mul_comm, Nat.mul_add_mod, Nat.mod_eq_of_lt hj]
    rw [e1, e2]
def partM (r c : Nat) (g : Nat → Nat → Int) (n : Nat) : Form := Vector.ofFn fun t : Fin 9 => if t.1 < n then u8 (g (t.1 / c) (t.1 % c)) else 0
theorem zf_get {j : Nat} (h : j < 9) : zForm[j] = 0 := by simp [zForm]
theorem partM_zero (r c : Nat) (g : Nat → Nat → Int) : partM r c g 0 = zForm := by
  apply Vector.ext
  intro i hi
  simp [partM, zf_get hi]
theorem partM_step {r c : Nat} {g : Nat → Nat → Int} {n : Nat} (hn : n < 9) : vs (partM r c g n) (n : Int) (u8 (g (n / c) (n % c))) = partM r c g (n + 1) := by
  apply Vector.ext
  intro i hi
  unfold vs partM
  simp only [Int.toNat_natCast, Vector.getElem_setIfInBounds, Vector.getElem_ofFn]
  by_cases h : n = i
  · subst h; simp
  · rw [if_neg h]
    by_cases h2 : i < n
    · rw [if_pos h2, if_pos (by omega)]
    · rw [if_neg h2, if_neg (by omega)]
theorem formOf_i {r c : Nat} {g : Nat → Nat → Int} (hr : r ≤ 3) (hc : c ≤ 3) (hc1 : 1 ≤ c) : impl_formOf (mkM r c g) = some (formM r c g) := by
  have h9 := rc_le hr hc
  unfold impl_formOf
  rw [concat_ints _ (by rw [mkM_len]; omega) (fun x hx => by
    unfold mkM at hx
    obtain ⟨i, _, rfl⟩ := List.mem_map.1 hx
    simp; omega)]
  simp only [Option.bind_some]
  rw [mkM_flat r c g (by omega)]
  have := iter_up (body := fun s : Int × Form => impl_formOf_l5 ((List.range (r * c)).map fun t => g (t / c) (t % c)) s.1 s.2) (fun t => ((t : Int), partM r c g t)) (r * c) (s' := (((r * c : Nat) : Int), formM r c g)) (fun t ht => by
    show impl_formOf_l5 _ (t : Int) (partM r c g t) = _
    unfold impl_formOf_l5
    rw [List.length_map, List.length_range, dtt (by omega), if_pos rfl, if_pos ⟨by omega, by omega⟩, if_pos ⟨by omega, by omega⟩, gl_map' ht, w64s (by omega), partM_step (by omega)]) (by
    show impl_formOf_l5 _ ((r * c : Nat) : Int) (partM r c g (r * c)) = _
    unfold impl_formOf_l5
    rw [List.length_map, List.length_range, dff (by omega), if_neg (by decide)]
    rfl)
  have h0 : (((0 : Nat) : Int), partM r c g 0) = (0, zForm) := by rw [partM_zero]; rfl
  rw [h0] at this
  rw [this]
  rfl
theorem form_l5 {r c : Nat} {g : Nat → Nat → Int} (hr : r ≤ 3) (hc : c ≤ 3) (hc1 : 1 ≤ c) {i : Nat} (hi : i < r) : iter (fun s : Int × Form => spec_l04Form_l5 (mkM r c g) (i : Int) s.1 s.2) (0, partM r c g (i * c)) = some (.stop ((c : Int), partM r c g ((i + 1) * c))) := by
  have h1 : i * c + c ≤ r * c := by rw [← Nat.succ_mul]; exact Nat.mul_le_mul_right _ hi
  have h9 := rc_le hr hc
  have := iter_up (body := fun s : Int × Form => spec_l04Form_l5 (mkM r c g) (i : Int) s.1 s.2) (fun j => ((j : Int), partM r c g (i * c + j))) c (s' := ((c : Int), partM r c g ((i + 1) * c))) (fun j hj => by
    show spec_l04Form_l5 (mkM r c g) (i : Int) (j : Int) (partM r c g (i * c + j)) = _
    unfold spec_l04Form_l5
    have e : w64 ((w64 ((c : Int) * (i : Int))) + (j : Int)) = ((i * c + j : Nat) : Int) := by
      rw [Int.mul_comm, w64_mul (by omega) hc, w64_id (by omega) (by omega)]; omega
    have e1 : (i * c + j) / c = i := by rw [Nat.mul_comm, Nat.mul_add_div (by omega), Nat.div_eq_of_lt hj]; omega
    have e2 : (i * c + j) % c = j := by rw [Nat.mul_comm, Nat.mul_add_mod, Nat.mod_eq_of_lt hj]
    have hs := partM_step (r := r) (c := c) (g := g) (n := i * c + j) (by omega)
    rw [e1, e2] at hs
    rw [mkM_len, if_pos ⟨by omega, by omega⟩, mkM_row hi, List.length_map, List.length_range, dtt (by omega), if_pos rfl, if_pos ⟨by omega, by omega⟩, e, if_pos ⟨by omega, by omega⟩, gl_map' hj, w64s (by omega), hs]
    rfl) (by
    show spec_l04Form_l5 (mkM r c g) (i : Int) (c : Int) (partM r c g (i * c + c)) = _
    unfold spec_l04Form_l5
    rw [mkM_len, if_pos ⟨by omega, by omega⟩, mkM_row hi, List.length_map, List.length_range, dff (by omega), if_neg (by decide), Nat.succ_mul])
  exact this
theorem form_s {r c : Nat} {g : Nat → Nat → Int} (hr : r ≤ 3) (hc : c ≤ 3) (hc1 : 1 ≤ c) : spec_l04Form (mkM r c g) = some (formM r c g) := by
  have := iter_up (body := fun s : Int × Form => spec_l04Form_l1 (mkM r c g) s.1 s.2) (fun i => ((i : Int), partM r c g (i * c))) r (s' := ((r : Int), formM r c g)) (fun i hi => by
    show spec_l04Form_l1 (mkM r c g) (i : Int) (partM r c g (i * c)) = _
    unfold spec_l04Form_l1
    rw [mkM_len, dtt (by omega), if_pos rfl, form_l5 hr hc hc1 hi]
    simp only [Option.bind_some]
    rw [w64s (by omega)]) (by
    show spec_l04Form_l1 (mkM r c g) (r : Int) (partM r c g (r * c)) = _
    unfold spec_l04Form_l1
    rw [mkM_len, dff (by omega), if_neg (by decide)]
    rfl)
  unfold spec_l04Form
  have h0 : (((0 : Nat) : Int), partM r c g (0 * c)) = (0, zForm) := by rw [Nat.zero_mul, partM_zero]; rfl
  rw [h0] at this
  rw [this]
  rfl
def dotF (p : Int) (g h : Nat → Nat → Int) (i l : Nat) : Nat → Int
  | 0 => 0
  | j + 1 => (dotF p g h i l j + g i j * h j l) % p
def Bd (p : Int) (r c : Nat) (g : Nat → Nat → Int) : Prop := ∀ i j, i < r → j < c → 0 ≤ g i j ∧ g i j < p
theorem dotF_bd {p : Int} (hp : pr p) (g h : Nat → Nat → Int) (i l : Nat) : ∀ j, 0 ≤ dotF p g h i l j ∧ dotF p g h i l j < p
  | 0 => by have := pr_le hp; unfold dotF; omega
  | j + 1 => by
    have := pr_le hp
    unfold dotF
    exact ⟨Int.emod_nonneg _ (by omega), Int.emod_lt_of_pos _ this.1⟩
theorem dotstep {p x a b : Int} (hp : pr p) (x0 : 0 ≤ x) (x1 : x < p) (a0 : 0 ≤ a) (a1 : a < p) (b0 : 0 ≤ b) (b1 : b < p) : (w64 (x + (w64 (a * b)))).tmod p = (x + a * b) % p := by
  have l := pr_le hp
  have hp5 : p ≤ 5 := by unfold pr at hp; omega
  have hm := mul_bd hp a0 a1 b0 b1
  rw [w64_lit (x := a * b) (by omega) (by omega), w64_lit (by omega) (by omega), Int.tmod_eq_emod_of_nonneg (by omega)]
theorem gl_seti {X : List Int} {k : Nat} {v : Int} (hk : k < X.length) : gl 0 (X.set k v) (k : Int) = v := by
  rw [gl_nat (by rw [List.length_set]; exact hk)]
  simp
theorem mul_l15 {p : Int} (hp : pr p) {r n c : Nat} {g h : Nat → Nat → Int} (hg : Bd p r n g) (hh : Bd p n c h) (hn : n ≤ 3) {i l : Nat} (hi : i < r) (hl : l < c) {X : List Int} (hX : X.length = c) (hX0 : gl 0 X (l : Int) = 0) :
    iter (fun s : Int × List Int => impl_multiply_l15 p (mkM r n g) (mkM n c h) (i : Int) (l : Int) s.1 s.2) (0, X) = some (.stop ((n : Int), X.set l (dotF p g h i l n))) := by
  have lp := pr_le hp
  have := iter_up (body := fun s : Int × List Int => impl_multiply_l15 p (mkM r n g) (mkM n c h) (i : Int) (l : Int) s.1 s.2) (fun j => ((j : Int), X.set l (dotF p g h i l j))) n (s' := ((n : Int), X.set l (dotF p g h i l n))) (fun j hj => by
    show impl_multiply_l15 p (mkM r n g) (mkM n c h) (i : Int) (l : Int) (j : Int) (X.set l (dotF p g h i l j)) = _
    unfold impl_multiply_l15
    have b1 := dotF_bd hp g h i l j
    have b2 := hg i j hi hj
    have b3 := hh j l hj hl
    rw [mkM_row hi, List.length_map, List.length_range, dtt (by omega), if_pos rfl, if_pos ⟨by omega, by omega⟩, if_pos (by rw [List.length_set]; exact ⟨by omega, by omega⟩), mkM_len, if_pos ⟨by omega, by omega⟩, mkM_row hj, List.length_map, List.length_range, if_pos ⟨by omega, by omega⟩, if_pos (show p ≠ 0 by omega), w64s (by omega), gl_seti (by omega), gl_map' hj, gl_map' hl, dotstep hp b1.1 b1.2 b2.1 b2.2 b3.1 b3.2, Int.toNat_natCast, List.set_set]
    rfl) (by
    show impl_multiply_l15 p (mkM r n g) (mkM n c h) (i : Int) (l : Int) (n : Int) _ = _
    unfold impl_multiply_l15
    rw [mkM_row hi, List.length_map, List.length_range, dff (by omega), if_neg (by decide)])
  have h0 : X.set l (dotF p g h i l 0) = X := by
    have : dotF p g h i l 0 = gl 0 X (l : Int) := by rw [hX0]; rfl
    rw [this, gl_nat (by omega)]
    exact List.set_getElem_self (by omega)
  rw [h0] at this
  exact this
theorem zeros_get {c t : Nat} : gl 0 (List.replicate c (0 : Int)) (t : Int) = 0 := by
  unfold gl
  rw [Int.toNat_natCast, List.getD_eq_getElem?_getD, List.getElem?_replicate]
  split <;> rfl
theorem mul_row {p : Int} (hp : pr p) {r n c : Nat} {g h : Nat → Nat → Int} (hg : Bd p r n g) (hh : Bd p n c h) (hn : n ≤ 3) (hn1 : 1 ≤ n) (hc : c ≤ 3) {i : Nat} (hi : i < r) :
    iter (fun s : Int × List Int => impl_multiply_l11 p (mkM r n g) (mkM n c h) (i : Int) s.1 s.2) (0, List.replicate c 0) = some (.stop ((c : Int), (List.range c).map fun l => dotF p g h i l n)) := by
  have hS : ((List.range c).map fun l => dotF p g h i l n).length = c := by simp
  have := iter_up (body := fun s : Int × List Int => impl_multiply_l11 p (mkM r n g) (mkM n c h) (i : Int) s.1 s.2) (fun l => ((l : Int), ((List.range c).map fun l => dotF p g h i l n).take l ++ (List.replicate c (0 : Int)).drop l)) c (s' := ((c : Int), (List.range c).map fun l => dotF p g h i l n)) (fun l hl => by
    show impl_multiply_l11 p (mkM r n g) (mkM n c h) (i : Int) (l : Int) _ = _
    unfold impl_multiply_l11
    rw [mkM_row0 (by omega), List.length_map, List.length_range, Int.toNat_natCast, List.length_replicate, dtt (by omega), if_pos rfl, mul_l15 hp hg hh hn hi hl (by simp; omega) (by rw [mix_get (by simp; omega) (by simp)]; exact zeros_get)]
    simp only [Option.bind_some]
    rw [w64s (by omega), mix_set (by simp; omega) (by simp) (by exact gl_map' hl)]) (by
    show impl_multiply_l11 p (mkM r n g) (mkM n c h) (i : Int) (c : Int) _ = _
    unfold impl_multiply_l11
    rw [mkM_row0 (by omega), List.length_map, List.length_range, Int.toNat_natCast, List.length_replicate, dff (by omega), if_neg (by decide), List.take_of_length_le (by omega), List.drop_of_length_le (by simp), List.append_nil])
  simpa using this
theorem multiply_i {p : Int} (hp : pr p) {r n c : Nat} {g h : Nat → Nat → Int} (hg : Bd p r n g) (hh : Bd p n c h) (hr : r ≤ 3) (hn : n ≤ 3) (hn1 : 1 ≤ n) (hc : c ≤ 3) : impl_multiply p (mkM r n g) (mkM n c h) = some (mkM r c fun i l => dotF p g h i l n) := by
  have := iter_up (body := fun s : Int × List (List Int) => impl_multiply_l1 p (mkM r n g) (mkM n c h) s.1 s.2) (fun i => ((i : Int), (List.range i).map fun i => (List.range c).map fun l => dotF p g h i l n)) r (s' := ((r : Int), mkM r c fun i l => dotF p g h i l n)) (fun i hi => by
    show impl_multiply_l1 p (mkM r n g) (mkM n c h) (i : Int) _ = _
    unfold impl_multiply_l1
    rw [mkM_len, dtt (by omega), if_pos rfl, if_pos ⟨by omega, by omega⟩, mkM_len, if_pos ⟨by omega, by omega⟩, mkM_row0 (by omega), List.length_map, List.length_range, if_pos ⟨by omega, by omega⟩, Int.toNat_natCast, mul_row hp hg hh hn hn1 hc hi]
    simp only [Option.bind_some]
    rw [if_pos (by simp; omega), w64s (by omega), snoc_map]) (by
    show impl_multiply_l1 p (mkM r n g) (mkM n c h) (r : Int) _ = _
    unfold impl_multiply_l1
    rw [mkM_len, dff (by omega), if_neg (by decide)]
    rfl)
  unfold impl_multiply
  have h0 : (((0 : Nat) : Int), (List.range 0).map fun i => (List.range c).map fun l => dotF p g h i l n) = (0, []) := by simp
  rw [h0] at this
  rw [this]
  rfl
theorem pl_l13 {p : Int} (hp : pr p) {r n c : Nat} {g h : Nat → Nat → Int} (hg : Bd p r n g) (hh : Bd p n c h) (hn : n ≤ 3) (hc : c ≤ 3) {i j : Nat} (hi : i < r) (hj : j < n) :
    iter (fun s : Int × List Int => spec_l01Plain_l13 p (mkM r n g) (mkM n c h) (i : Int) (j : Int) s.1 s.2) (0, (List.range c).map fun l => dotF p g h i l j) = some (.stop ((c : Int), (List.range c).map fun l => dotF p g h i l (j + 1))) := by
  have lp := pr_le hp
  have := iter_up (body := fun s : Int × List Int => spec_l01Plain_l13 p (mkM r n g) (mkM n c h) (i : Int) (j : Int) s.1 s.2) (fun l => ((l : Int), ((List.range c).map fun l => dotF p g h i l (j + 1)).take l ++ ((List.range c).map fun l => dotF p g h i l j).drop l)) c (s' := ((c : Int), (List.range c).map fun l => dotF p g h i l (j + 1))) (fun l hl => by
    show spec_l01Plain_l13 p (mkM r n g) (mkM n c h) (i : Int) (j : Int) (l : Int) _ = _
    unfold spec_l01Plain_l13
    have b1 := dotF_bd hp g h i l j
    have b2 := hg i j hi hj
    have b3 := hh j l hj hl
    have hml : (((List.range c).map fun l => dotF p g h i l (j + 1)).take l ++ ((List.range c).map fun l => dotF p g h i l j).drop l).length = c := by simp; omega
    rw [hml, dtt (by omega), if_pos rfl, if_pos ⟨by omega, by omega⟩, mkM_len, if_pos ⟨by omega, by omega⟩, mkM_row hi, List.length_map, List.length_range, if_pos ⟨by omega, by omega⟩, mkM_len, if_pos ⟨by omega, by omega⟩, mkM_row hj, List.length_map, List.length_range, if_pos ⟨by omega, by omega⟩, if_pos (show p ≠ 0 by omega), w64s (by omega), mix_get (by simp; omega) (by simp), gl_map' hl, gl_map' hj, gl_map' hl, dotstep hp b1.1 b1.2 b2.1 b2.2 b3.1 b3.2, Int.toNat_natCast, mix_set (by simp; omega) (by simp) (by rw [gl_map' hl]; rfl)]) (by
    show spec_l01Plain_l13 p (mkM r n g) (mkM n c h) (i : Int) (j : Int) (c : Int) _ = _
    unfold spec_l01Plain_l13
    have hml : (((List.range c).map fun l => dotF p g h i l (j + 1)).take c ++ ((List.range c).map fun l => dotF p g h i l j).drop c).length = c := by simp
    rw [hml, dff (by omega), if_neg (by decide), List.take_of_length_le (by simp), List.drop_of_length_le (by simp), List.append_nil])
  simpa using this
theorem plain_s {p : Int} (hp : pr p) {r n c : Nat} {g h : Nat → Nat → Int} (hg : Bd p r n g) (hh : Bd p n c h) (hr : r ≤ 3) (hn : n ≤ 3) (hn1 : 1 ≤ n) (hc : c ≤ 3) : spec_l01Plain p (mkM r n g) (mkM n c h) = some (mkM r c fun i l => dotF p g h i l n) := by
  have hrow : ∀ i, i < r → iter (fun s : Int × List Int => spec_l01Plain_l9 p (mkM r n g) (mkM n c h) (i : Int) s.1 s.2) (0, List.replicate c 0) = some (.stop ((n : Int), (List.range c).map fun l => dotF p g h i l n)) := fun i hi => by
    have := iter_up (body := fun s : Int × List Int => spec_l01Plain_l9 p (mkM r n g) (mkM n c h) (i : Int) s.1 s.2) (fun j => ((j : Int), (List.range c).map fun l => dotF p g h i l j)) n (s' := ((n : Int), (List.range c).map fun l => dotF p g h i l n)) (fun j hj => by
      show spec_l01Plain_l9 p (mkM r n g) (mkM n c h) (i : Int) (j : Int) _ = _
      unfold spec_l01Plain_l9
      rw [mkM_len, dtt (by omega), if_pos rfl, pl_l13 hp hg hh hn hc hi hj]
      simp only [Option.bind_some]
      rw [w64s (by omega)]) (by
      show spec_l01Plain_l9 p (mkM r n g) (mkM n c h) (i : Int) (n : Int) _ = _
      unfold spec_l01Plain_l9
      rw [mkM_len, dff (by omega), if_neg (by decide)])
    have e : (List.range c).map (fun l => dotF p g h i l 0) = List.replicate c 0 := by
      apply List.ext_getElem
      · simp
      · intro t h1 h2; simp [dotF]
    rw [e] at this
    exact this
  have := iter_up (body := fun s : Int × List (List Int) => spec_l01Plain_l1 p (mkM r n g) (mkM n c h) s.1 s.2) (fun i => ((i : Int), (List.range i).map fun i => (List.range c).map fun l => dotF p g h i l n)) r (s' := ((r : Int), mkM r c fun i l => dotF p g h i l n)) (fun i hi => by
    show spec_l01Plain_l1 p (mkM r n g) (mkM n c h) (i : Int) _ = _
    unfold spec_l01Plain_l1
    rw [mkM_len, dtt (by omega), if_pos rfl, mkM_len, if_pos ⟨by omega, by omega⟩, mkM_row0 (by omega), List.length_map, List.length_range, if_pos ⟨by omega, by omega⟩, Int.toNat_natCast, hrow i hi]
    simp only [Option.bind_some]
    rw [if_pos (by simp; omega), w64s (by omega), snoc_map]) (by
    show spec_l01Plain_l1 p (mkM r n g) (mkM n c h) (r : Int) _ = _
    unfold spec_l01Plain_l1
    rw [mkM_len, dff (by omega), if_neg (by decide)]
    rfl)
  unfold spec_l01Plain
  have h0 : (((0 : Nat) : Int), (List.range 0).map fun i => (List.range c).map fun l => dotF p g h i l n) = (0, []) := by simp
  rw [h0] at this
  rw [this]
  rfl
end Go.Proofs.YtB
