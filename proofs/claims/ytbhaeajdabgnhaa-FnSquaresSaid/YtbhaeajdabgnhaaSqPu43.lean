/- Plain laws: inverses of squares, in both forms; squares that have one. -/
import Derived.Test.YtbhaeajdabgnhaaSqPu42
import Derived.Test.YtbhaeajdabgnhaaSqG1
set_option linter.unusedVariables false
set_option linter.unusedSimpArgs false
namespace Go.Proofs.YtB
open Go Go.RowKit Go.Proofs
theorem grow_ints {n : Int} (h0 : 0 ≤ n) (h1 : n ≤ 10000000) : slices_Grow_150_fnil n = some [] := by
  unfold slices_Grow_150_fnil
  rw [dff (by omega)]
  have e : w64 (n - w64 (0 - (([] : List Int).length : Int))) = n := by
    simp only [List.length_nil]
    rw [show w64 ((0 : Int) - ((0 : Nat) : Int)) = 0 from rfl, w64_id (by omega) (by omega)]
    omega
  rw [e]
  simp only [Bool.false_eq_true, if_false]
  by_cases h : 0 < n
  · rw [dtt h, if_pos rfl, if_pos ⟨h, by omega⟩, if_pos (by simp; omega)]
    rfl
  · rw [dff h]
    rfl
theorem flat_len {rows : List (List Int)} (h : ∀ x ∈ rows, x.length ≤ 1000) : rows.flatten.length ≤ rows.length * 1000 := by
  induction rows with
  | nil => simp
  | cons x l ih =>
    have := h x (by simp)
    have := ih (fun y hy => h y (by simp [hy]))
    simp only [List.flatten_cons, List.length_append, List.length_cons]
    omega
theorem take_flat {rows : List (List Int)} {j : Nat} (hj : j < rows.length) : (rows.take (j + 1)).flatten = (rows.take j).flatten ++ rows[j] := by
  rw [← List.take_append_getElem hj, List.flatten_append]
  simp
/-- the library's concatenation -/
theorem concat_ints (rows : List (List Int)) (hn : rows.length ≤ 1000) (h : ∀ x ∈ rows, x.length ≤ 1000) : slices_Concat_107 rows = some rows.flatten := by
  have hf : ∀ j, j ≤ rows.length → (rows.take j).flatten.length ≤ 1000000 := fun j hj => by
    have := flat_len (rows := rows.take j) (fun x hx => h x (List.mem_of_mem_take hx))
    rw [List.length_take] at this
    have : min j rows.length * 1000 ≤ 1000 * 1000 := Nat.mul_le_mul_right _ (by omega)
    omega
  have h1 := iter_up (body := fun s : Int × Int => slices_Concat_107_l1 rows s.1 s.2) (fun j => (((rows.take j).flatten.length : Int), (j : Int))) rows.length (s' := ((rows.flatten.length : Int), (rows.length : Int))) (fun j hj => by
    show slices_Concat_107_l1 rows ((rows.take j).flatten.length : Int) (j : Int) = _
    unfold slices_Concat_107_l1
    have := hf j (by omega)
    have := h _ (List.getElem_mem hj)
    rw [dtt (by omega), if_pos rfl, if_pos ⟨by omega, by omega⟩, gl_nat hj, w64_id (by omega) (by omega), dff (by omega), w64s (by omega), take_flat hj, List.length_append]
    simp) (by
    show slices_Concat_107_l1 rows ((rows.take rows.length).flatten.length : Int) (rows.length : Int) = _
    unfold slices_Concat_107_l1
    rw [dff (by omega), if_neg (by decide), List.take_length])
  have h2 := iter_up (body := fun s : Int × List Int => slices_Concat_107_l12 rows s.1 s.2) (fun j => ((j : Int), (rows.take j).flatten)) rows.length (s' := ((rows.length : Int), rows.flatten)) (fun j hj => by
    show slices_Concat_107_l12 rows (j : Int) (rows.take j).flatten = _
    unfold slices_Concat_107_l12
    have := hf j (by omega)
    have := h _ (List.getElem_mem hj)
    rw [dtt (by omega), if_pos rfl, if_pos ⟨by omega, by omega⟩, gl_nat hj, if_pos (by omega), w64s (by omega), take_flat hj]) (by
    show slices_Concat_107_l12 rows (rows.length : Int) (rows.take rows.length).flatten = _
    unfold slices_Concat_107_l12
    rw [dff (by omega), if_neg (by decide), List.take_length])
  have z1 : (((rows.take 0).flatten.length : Int), ((0 : Nat) : Int)) = (0, 0) := by simp
  have z2 : (((0 : Nat) : Int), (rows.take 0).flatten) = (0, []) := by simp
  rw [z1] at h1
  rw [z2] at h2
  unfold slices_Concat_107
  have hf' := hf rows.length (Nat.le_refl _)
  rw [List.take_length] at hf'
  rw [h1]
  simp only [Option.bind_some]
  rw [grow_ints (by omega) (by omega)]
  simp only [Option.bind_some]
  rw [h2]
  rfl

/-- a square of numbers modulo p -/
structure Sq (p : Int) (n : Nat) (L : List (List Int)) : Prop where
  len : L.length = n
  n1 : 1 ≤ n
  n3 : n ≤ 3
  row : ∀ x ∈ L, x.length = n ∧ ∀ y ∈ x, 0 ≤ y ∧ y < p
def sqM (L : List (List Int)) : Nat → List Int := fun k => gl [] L (k : Int)
def unitR (n k : Nat) : List Int := (List.range n).map fun j => if k = j then 1 else 0
def augM (n : Nat) (L : List (List Int)) : Nat → List Int := fun k => gl [] L (k : Int) ++ unitR n k
def outM (n : Nat) (M : Nat → List Int) : List (List Int) := (List.range n).map fun k => (M k).drop n
theorem unitR_len (n k : Nat) : (unitR n k).length = n := by simp [unitR]
theorem gl_bd {p : Int} {X : List Int} (hp : 0 < p) (h : ∀ y ∈ X, 0 ≤ y ∧ y < p) (t : Nat) : 0 ≤ gl 0 X (t : Int) ∧ gl 0 X (t : Int) < p := by
  rcases Nat.lt_or_ge t X.length with ht | ht
  · rw [gl_nat ht]; exact h _ (List.getElem_mem ht)
  · unfold gl
    rw [Int.toNat_natCast, List.getD_eq_getElem?_getD, List.getElem?_eq_none ht]
    exact ⟨Int.le_refl _, hp⟩
theorem Sq.get {p : Int} {n : Nat} {L : List (List Int)} (h : Sq p n L) {k : Nat} (hk : k < n) : gl [] L (k : Int) = L[k]'(by rw [h.len]; exact hk) := gl_nat (by rw [h.len]; exact hk)
theorem Sq.mem {p : Int} {n : Nat} {L : List (List Int)} (h : Sq p n L) {k : Nat} (hk : k < n) : gl [] L (k : Int) ∈ L := by
  rw [h.get hk]; exact List.getElem_mem _
theorem Sq.mok {p : Int} {n : Nat} {L : List (List Int)} (hp : pr p) (h : Sq p n L) : Mok p n n (sqM L) := by
  have l := pr_le hp
  exact ⟨fun k hk => (h.row _ (h.mem hk)).1, fun k hk t => gl_bd l.1 (h.row _ (h.mem hk)).2 t⟩
theorem Sq.aug {p : Int} {n : Nat} {L : List (List Int)} (hp : pr p) (h : Sq p n L) : Mok p n (2 * n) (augM n L) := by
  have l := pr_le hp
  have hp2 : 2 ≤ p := by unfold pr at hp; omega
  refine ⟨fun k hk => ?_, fun k hk t => gl_bd l.1 (fun y hy => ?_) t⟩
  · unfold augM
    rw [List.length_append, unitR_len, (h.row _ (h.mem hk)).1]; omega
  · unfold augM at hy
    rcases List.mem_append.1 hy with hy | hy
    · exact (h.row _ (h.mem hk)).2 y hy
    · unfold unitR at hy
      obtain ⟨j, _, rfl⟩ := List.mem_map.1 hy
      split <;> omega
theorem map_rep {n : Nat} {g : Nat → List Int} : Rep n (List.range n) ((List.range n).map g) g := by
  refine ⟨by simp, fun k hk => by rw [gl_range hk]; simpa using hk, fun k hk => ?_⟩
  rw [gl_range hk, List.getD_eq_getElem?_getD, List.getElem?_map, List.getElem?_range hk]
  rfl
theorem inv_l1 {p : Int} {n : Nat} {L : List (List Int)} (h : Sq p n L) : iter (fun s : Int × List Nat × List (List Int) => impl_inverted_l1 L s.1 s.2.1 s.2.2) (0, [], []) = some (.stop ((n : Int), List.range n, (List.range n).map (augM n L))) := by
  have hL := h.len
  have n3 := h.n3
  have := iter_up (body := fun s : Int × List Nat × List (List Int) => impl_inverted_l1 L s.1 s.2.1 s.2.2) (fun j => ((j : Int), List.range j, (List.range j).map (augM n L))) n (s' := ((n : Int), List.range n, (List.range n).map (augM n L))) (fun j hj => by
    show impl_inverted_l1 L (j : Int) (List.range j) ((List.range j).map (augM n L)) = _
    unfold impl_inverted_l1
    have hrow := h.row _ (h.mem hj)
    have hu : (List.replicate n (0 : Int)).set j 1 = unitR n j := by
      apply List.ext_getElem
      · simp [unitR]
      · intro t h1 h2
        rw [List.getElem_set]
        simp [unitR]
    rw [hL, dtt (by omega), if_pos rfl, if_pos ⟨by omega, by omega⟩, if_pos ⟨by omega, by omega⟩, Int.toNat_natCast, Int.toNat_natCast, if_pos (by simp; omega), hu, concat_ints _ (by simp) (fun x hx => by
      simp only [List.mem_cons, List.not_mem_nil, or_false] at hx
      rcases hx with rfl | rfl
      · omega
      · rw [unitR_len]; omega)]
    simp only [Option.bind_some]
    rw [if_pos (by simp; omega), w64s (by omega), List.range_succ, List.map_append, List.length_map, List.length_range]
    simp [augM]) (by
    show impl_inverted_l1 L (n : Int) (List.range n) ((List.range n).map (augM n L)) = _
    unfold impl_inverted_l1
    rw [hL, dff (by omega), if_neg (by decide)])
  simpa using this
theorem inv_l75 {p : Int} {n : Nat} {L : List (List Int)} (hL : L.length = n) (hn : n ≤ 3) {I : List Nat} {rows : List (List Int)} {M : Nat → List Int} (hR : Rep n I rows M) (hM : Mok p n (2 * n) M) : iter (fun s : Int × List Nat × List (List Int) => impl_inverted_l75 L I rows s.1 s.2.1 s.2.2) (0, [], []) = some (.stop ((n : Int), List.range n, outM n M)) := by
  have := iter_up (body := fun s : Int × List Nat × List (List Int) => impl_inverted_l75 L I rows s.1 s.2.1 s.2.2) (fun j => ((j : Int), List.range j, (List.range j).map fun k => (M k).drop n)) n (s' := ((n : Int), List.range n, outM n M)) (fun j hj => by
    show impl_inverted_l75 L I rows (j : Int) (List.range j) ((List.range j).map fun k => (M k).drop n) = _
    unfold impl_inverted_l75
    have hl := hM.len j hj
    rw [hR.len, hL, dtt (by omega), if_pos rfl, if_pos ⟨by omega, by omega⟩, hR.at_ j hj, hl, if_pos ⟨by omega, by omega⟩, Int.toNat_natCast, Int.toNat_natCast, List.take_of_length_le (by omega), clone_ints _ (by simp; omega)]
    simp only [Option.bind_some]
    rw [if_pos (by simp; omega), w64s (by omega), List.range_succ, List.map_append, List.length_map, List.length_range]
    rfl) (by
    show impl_inverted_l75 L I rows (n : Int) (List.range n) ((List.range n).map fun k => (M k).drop n) = _
    unfold impl_inverted_l75
    rw [hR.len, dff (by omega), if_neg (by decide)]
    rfl)
  simpa using this
theorem gi_out (n : Nat) (M : Nat → List Int) : gi (List.range n) (outM n M) = outM n M := by
  have := gi_range (outM n M)
  rwa [show (outM n M).length = n by simp [outM]] at this
/-- the program's inverse -/
theorem inverted_i {p : Int} (hp : pr p) {n : Nat} {L : List (List Int)} (h : Sq p n L) {M' : Nat → List Int} (hg : gj p n n 0 (augM n L) = some M') : impl_inverted p L = some (outM n M') ∧ Mok p n (2 * n) M' := by
  have n3 := h.n3
  obtain ⟨I', rows', e1, e2, e3⟩ := inv_l20 hp (show n ≤ 1000 by omega) (show 2 * n ≤ 1000 by omega) (by omega) h.len n 0 _ _ _ M' (by omega) map_rep (h.aug hp) (range_nod n) hg
  rw [show ((0 : Nat) : Int) = 0 from rfl] at e1
  refine ⟨?_, e3⟩
  unfold impl_inverted
  rw [inv_l1 h]
  simp only [Option.bind_some]
  rw [e1]
  simp only [Option.bind_some]
  rw [inv_l75 h.len n3 e2 e3]
  simp only [Option.bind_some]
  rw [gi_out]
theorem own_ints (L : List Int) (h : L.length ≤ 1000) : spec_l01Own L = some L := by
  unfold spec_l01Own
  rw [if_pos (by simp; omega), List.nil_append]
theorem inv_s14 {n : Nat} {L : List (List Int)} (hL : L.length = n) (hn : n ≤ 3) {i : Nat} (X : List Int) (hX : X.length ≤ 1000) : iter (fun s : Int × List Int => spec_l04Inverse_l14 L (i : Int) s.1 s.2) (0, X) = some (.stop ((n : Int), X ++ unitR n i)) := by
  have := iter_up (body := fun s : Int × List Int => spec_l04Inverse_l14 L (i : Int) s.1 s.2) (fun j => ((j : Int), X ++ (List.range j).map fun t => if i = t then (1 : Int) else 0)) n (s' := ((n : Int), X ++ unitR n i)) (fun j hj => by
    show spec_l04Inverse_l14 L (i : Int) (j : Int) _ = _
    unfold spec_l04Inverse_l14
    rw [hL, dtt (by omega), if_pos rfl]
    by_cases hij : i = j
    · rw [dtt (show (i : Int) = (j : Int) by omega), if_pos rfl, if_pos (by simp; omega), w64s (by omega), List.range_succ, List.map_append, ← List.append_assoc]
      simp [hij]
    · rw [dff (show ¬ (i : Int) = (j : Int) by omega), if_neg (by decide), if_pos (by simp; omega), w64s (by omega), List.range_succ, List.map_append, ← List.append_assoc]
      simp [hij]) (by
    show spec_l04Inverse_l14 L (i : Int) (n : Int) _ = _
    unfold spec_l04Inverse_l14
    rw [hL, dff (by omega), if_neg (by decide)]
    rfl)
  simpa using this
theorem inv_s1 {p : Int} {n : Nat} {L : List (List Int)} (h : Sq p n L) : iter (fun s : Int × List Nat × List (List Int) => spec_l04Inverse_l1 L s.1 s.2.1 s.2.2) (0, [], []) = some (.stop ((n : Int), List.range n, (List.range n).map (augM n L))) := by
  have hL := h.len
  have n3 := h.n3
  have := iter_up (body := fun s : Int × List Nat × List (List Int) => spec_l04Inverse_l1 L s.1 s.2.1 s.2.2) (fun j => ((j : Int), List.range j, (List.range j).map (augM n L))) n (s' := ((n : Int), List.range n, (List.range n).map (augM n L))) (fun j hj => by
    show spec_l04Inverse_l1 L (j : Int) (List.range j) ((List.range j).map (augM n L)) = _
    unfold spec_l04Inverse_l1
    have hrow := h.row _ (h.mem hj)
    rw [hL, dtt (by omega), if_pos rfl, if_pos ⟨by omega, by omega⟩, own_ints _ (by omega)]
    simp only [Option.bind_some]
    rw [inv_s14 hL n3 _ (by omega)]
    simp only [Option.bind_some]
    rw [if_pos (by simp; omega), w64s (by omega), List.range_succ, List.map_append, List.length_map, List.length_range]
    rfl) (by
    show spec_l04Inverse_l1 L (n : Int) (List.range n) ((List.range n).map (augM n L)) = _
    unfold spec_l04Inverse_l1
    rw [hL, dff (by omega), if_neg (by decide)])
  simpa using this
theorem inv_s98 {p : Int} {n : Nat} {L : List (List Int)} (hL : L.length = n) (hn : n ≤ 3) {I : List Nat} {rows : List (List Int)} {M : Nat → List Int} (hR : Rep n I rows M) (hM : Mok p n (2 * n) M) : iter (fun s : Int × List Nat × List (List Int) => spec_l04Inverse_l98 L I rows s.1 s.2.1 s.2.2) (0, [], []) = some (.stop ((n : Int), List.range n, outM n M)) := by
  have := iter_up (body := fun s : Int × List Nat × List (List Int) => spec_l04Inverse_l98 L I rows s.1 s.2.1 s.2.2) (fun j => ((j : Int), List.range j, (List.range j).map fun k => (M k).drop n)) n (s' := ((n : Int), List.range n, outM n M)) (fun j hj => by
    show spec_l04Inverse_l98 L I rows (j : Int) (List.range j) ((List.range j).map fun k => (M k).drop n) = _
    unfold spec_l04Inverse_l98
    have hl := hM.len j hj
    rw [hR.len, hL, dtt (by omega), if_pos rfl, if_pos ⟨by omega, by omega⟩, hR.at_ j hj, hl, if_pos ⟨by omega, by omega⟩, Int.toNat_natCast, Int.toNat_natCast, List.take_of_length_le (by omega), own_ints _ (by simp; omega)]
    simp only [Option.bind_some]
    rw [if_pos (by simp; omega), w64s (by omega), List.range_succ, List.map_append, List.length_map, List.length_range]
    rfl) (by
    show spec_l04Inverse_l98 L I rows (n : Int) (List.range n) ((List.range n).map fun k => (M k).drop n) = _
    unfold spec_l04Inverse_l98
    rw [hL, dff (by omega), if_neg (by decide)]
    rfl)
  simpa using this
/-- the reference's inverse -/
theorem inverse_sq {p : Int} (hp : pr p) {n : Nat} {L : List (List Int)} (h : Sq p n L) : spec_l04Inverse p L = some (match gj p n n 0 (augM n L) with | none => ([], false) | some M' => (outM n M', true)) := by
  have n3 := h.n3
  have h27 := inv_s27 hp (show n ≤ 1000 by omega) h.len n 0 _ _ _ (by omega) map_rep (h.aug hp)
  rw [show ((0 : Nat) : Int) = 0 from rfl] at h27
  unfold spec_l04Inverse
  rw [inv_s1 h]
  simp only [Option.bind_some]
  cases hg : gj p n n 0 (augM n L) with
  | none =>
    rw [hg] at h27
    dsimp only at h27
    rw [h27]
    rfl
  | some M' =>
    rw [hg] at h27
    obtain ⟨I', rows', e1, e2, e3⟩ := h27
    rw [e1]
    simp only [Option.bind_some]
    rw [inv_s98 h.len n3 e2 e3]
    simp only [Option.bind_some]
    rw [gi_out]
theorem rk_le (p : Int) (n : Nat) : ∀ (d c i : Nat) (M : Nat → List Int), rk p n d c i M ≤ i + d
  | 0, c, i, M => Nat.le_refl _
  | d + 1, c, i, M => by
    unfold rk
    split
    · have := rk_le p n d (c + 1) i M; omega
    · rename_i b _
      have := rk_le p n d (c + 1) (i + 1) (elM p (swM M i b) n i c); omega
theorem fb_congr {M N : Nat → List Int} {c : Nat} : ∀ (d k : Nat), (∀ t, k ≤ t → t < k + d → gl 0 (M t) (c : Int) = gl 0 (N t) (c : Int)) → fb M c k d = fb N c k d
  | 0, k, h => rfl
  | d + 1, k, h => by
    unfold fb
    rw [h k (Nat.le_refl _) (by omega), fb_congr d (k + 1) (fun t h1 h2 => h t (by omega) (by omega))]
theorem mod_swap {p x s y z : Int} : (x - ((s * y) % p) * z) % p = (x - s * ((z * y) % p)) % p := by
  rw [Int.sub_emod, Int.mul_emod, Int.emod_emod_of_dvd _ (Int.dvd_refl p), ← Int.mul_emod, ← Int.sub_emod]
  conv => rhs; rw [Int.sub_emod, Int.mul_emod s, Int.emod_emod_of_dvd _ (Int.dvd_refl p), ← Int.mul_emod, ← Int.sub_emod]
  rw [Int.mul_assoc, Int.mul_comm y z]
theorem rk_gj {p : Int} (hp : pr p) {n m : Nat} (hnm : n ≤ m) : ∀ (d c : Nat) (M N : Nat → List Int), c + d = n → Mok p n n M → Mok p n m N → (∀ k, c ≤ k → k < n → ∀ t : Nat, t < n → gl 0 (M k) (t : Int) = gl 0 (N k) (t : Int)) →
    (rk p n d c c M = n ↔ (gj p n d c N).isSome = true)
  | 0, c, M, N, hc, hM, hN, h => by
    unfold rk gj
    simp; omega
  | d + 1, c, M, N, hc, hM, hN, h => by
    have hcn : c < n := by omega
    have hfb : fb M c c (n - c) = fb N c c (n - c) := fb_congr _ _ (fun t h1 h2 => h t h1 (by omega) c hcn)
    unfold rk gj
    rw [hfb]
    cases hf : fb N c c (n - c) with
    | none =>
      have := rk_le p n d (c + 1) c M
      simp only [Option.isSome_none, Bool.false_eq_true, iff_false]
      omega
    | some b =>
      obtain ⟨b0, b1, b2⟩ := fb_some hf
      have hb : b < n := by omega
      have hM2 := hM.sw hcn hb
      have hN2 := hN.sw hcn hb
      refine rk_gj hp hnm d (c + 1) _ _ (by omega) (hM2.el hp c c) (hN2.gj hp hcn) (fun k hk hkn t ht => ?_)
      have hsw : ∀ k, c ≤ k → k < n → ∀ t : Nat, t < n → gl 0 (swM M c b k) (t : Int) = gl 0 (swM N c b k) (t : Int) := fun k h1 h2 t ht => by
        unfold swM
        split
        · exact h b b0 hb t ht
        · split
          · exact h c (Nat.le_refl _) hcn t ht
          · exact h k h1 h2 t ht
      have hkc : k ≠ c := by omega
      unfold elM gjM elX
      rw [if_pos ⟨by omega, hkn⟩, if_pos ⟨hkc, hkn⟩]
      have u1 : updM (swM N c b) c (scl p (inv p (gl 0 (swM N c b c) (c : Int))) (swM N c b c)) k = swM N c b k := by unfold updM; rw [if_neg hkc]
      have u2 : updM (swM N c b) c (scl p (inv p (gl 0 (swM N c b c) (c : Int))) (swM N c b c)) c = scl p (inv p (gl 0 (swM N c b c) (c : Int))) (swM N c b c) := by unfold updM; rw [if_pos rfl]
      have lM := hM2.len k hkn
      have lN := hN2.len k hkn
      have lc := hN2.len c hcn
      rw [u1, u2, rop_get (by omega), rop_get (by omega), scl_get (by omega), hsw k (by omega) hkn t ht, hsw k (by omega) hkn c hcn, hsw c (Nat.le_refl _) hcn t ht, hsw c (Nat.le_refl _) hcn c hcn]
      exact mod_swap
theorem sq_rows {n : Nat} {L : List (List Int)} (hL : L.length = n) : Rep n (List.range n) L (sqM L) := by
  refine ⟨by simp, fun k hk => by rw [gl_range hk]; omega, fun k hk => ?_⟩
  rw [gl_range hk]
  unfold sqM
  rw [gl_nat (by omega)]
  exact getD_at (by omega)
theorem rank_sq {p : Int} (hp : pr p) {n : Nat} {L : List (List Int)} (h : Sq p n L) : impl_rank p L = some (rk p n n 0 0 (sqM L) : Int) := by
  have n3 := h.n3
  unfold impl_rank
  rw [rank_l1 _ (by rw [h.len]; omega) (fun x hx => by have := (h.row x hx).1; omega)]
  simp only [Option.bind_some]
  obtain ⟨I', rows', c', e⟩ := rank_l17 hp (show n ≤ 1000 by omega) (show n ≤ 1000 by omega) n 0 0 (List.range n) L (sqM L) (by omega) (by omega) (sq_rows h.len) (h.mok hp) (range_nod n)
  rw [show ((0 : Nat) : Int) = 0 from rfl] at e
  rw [h.len, e]
  rfl
theorem invertible_i {p : Int} (hp : pr p) {n : Nat} {L : List (List Int)} (h : Sq p n L) : impl_isInvertible p L = some (gj p n n 0 (augM n L)).isSome := by
  unfold impl_isInvertible
  rw [rank_sq hp h]
  simp only [Option.bind_some]
  have := rk_gj hp (show n ≤ 2 * n by omega) n 0 (sqM L) (augM n L) (by omega) (h.mok hp) (h.aug hp) (fun k _ hk t ht => by
    unfold sqM augM
    have hl := (h.row _ (h.mem hk)).1
    generalize gl [] L (k : Int) = X at hl ⊢
    unfold gl
    rw [Int.toNat_natCast, List.getD_eq_getElem?_getD, List.getD_eq_getElem?_getD, List.getElem?_append_left (by omega)])
  rw [h.len]
  congr 1
  rw [Bool.eq_iff_iff, ← this, decide_eq_true_iff]
  omega
end Go.Proofs.YtB
