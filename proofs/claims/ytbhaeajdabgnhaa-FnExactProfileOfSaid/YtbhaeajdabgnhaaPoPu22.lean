/- Plain laws: the ranks of a form, in both forms. -/
import Derived.Test.YtbhaeajdabgnhaaPoPu21
import Derived.Test.YtbhaeajdabgnhaaPoG2
import Derived.Test.YtbhaeajdabgnhaaPoG1
set_option linter.unusedVariables false
set_option linter.unusedSimpArgs false
namespace Go.Proofs.YtB
open Go Go.RowKit Go.Proofs
theorem gl_range {n t : Nat} (h : t < n) : gl 0 (List.range n) (t : Int) = t := by
  rw [gl_nat (by simpa using h), List.getElem_range]
theorem range_nod (n : Nat) : nod n (List.range n) := by
  intro a b ha hb h
  rwa [gl_range ha, gl_range hb] at h
theorem getD_at {L : List (List Int)} {t : Nat} (h : t < L.length) : L.getD t [] = L[t] := by
  rw [List.getD_eq_getElem?_getD, List.getElem?_eq_getElem h]; rfl
theorem mat_len (f : Form) (r c : Nat) : (mat f r c).length = r := by simp [mat]
theorem mat_get {f : Form} {r c t : Nat} (h : t < r) : (mat f r c).getD t [] = mrow f c t := by
  rw [getD_at (by rw [mat_len]; exact h)]
  simp [mat]
theorem mat_rep (f : Form) (r c : Nat) : Rep r (List.range r) (mat f r c) (mrow f c) :=
  ⟨by simp, fun k hk => by rw [gl_range hk, mat_len]; exact hk, fun k hk => by rw [gl_range hk, mat_get hk]⟩
theorem mrow_len (f : Form) (c i : Nat) : (mrow f c i).length = c := by simp [mrow]
theorem mat_ok {p : Int} {f : Form} {r c : Nat} (hp : pr p) (hr : r ≤ 3) (hc : c ≤ 3) (hl : ∀ j, (hj : j < 9) → ((f[j].toNat : Nat) : Int) < p) : Mok p r c (mrow f c) := by
  have l := pr_le hp
  refine ⟨fun k hk => mrow_len f c k, fun k hk t => ?_⟩
  unfold mrow
  rw [gl_map]
  split
  · rename_i ht
    have h1 : k * c + c ≤ r * c := by rw [← Nat.succ_mul]; exact Nat.mul_le_mul_right _ hk
    have h9 := rc_le hr hc
    unfold ent
    rw [vg_nat (show k * c + t < 9 by omega)]
    exact ⟨by omega, hl _ (by omega)⟩
  · omega
theorem rank_l1 (L : List (List Int)) (hL : L.length ≤ 1000) (hr : ∀ x ∈ L, x.length ≤ 1000) : iter (fun s : Int × List Nat × List (List Int) => impl_rank_l1 L s.1 s.2.1 s.2.2) (0, [], []) = some (.stop ((L.length : Int), List.range L.length, L)) := by
  have := iter_up (body := fun s : Int × List Nat × List (List Int) => impl_rank_l1 L s.1 s.2.1 s.2.2) (fun j => ((j : Int), List.range j, L.take j)) L.length (s' := ((L.length : Int), List.range L.length, L)) (fun j hj => by
    show impl_rank_l1 L (j : Int) (List.range j) (L.take j) = _
    unfold impl_rank_l1
    rw [dtt (by omega), if_pos rfl, if_pos ⟨by omega, by omega⟩, gl_nat hj, clone_ints _ (hr _ (List.getElem_mem hj))]
    simp only [Option.bind_some]
    rw [if_pos (by simp; omega), w64s (by omega), List.range_succ, List.take_append_getElem hj, List.length_take, Nat.min_eq_left (by omega)]) (by
    show impl_rank_l1 L (L.length : Int) (List.range L.length) (L.take L.length) = _
    unfold impl_rank_l1
    rw [dff (by omega), if_neg (by decide), List.take_length])
  simpa using this
/-- the program's rank of a matrix -/
theorem rank_i {p : Int} {f : Form} {r c : Nat} (hp : pr p) (hr : r ≤ 3) (hc : c ≤ 3) (hl : ∀ j, (hj : j < 9) → ((f[j].toNat : Nat) : Int) < p) : impl_rank p (mat f r c) = some (rk p r c 0 0 (mrow f c) : Int) := by
  unfold impl_rank
  rw [rank_l1 _ (by rw [mat_len]; omega) (fun x hx => by
    obtain ⟨t, ht, rfl⟩ := List.getElem_of_mem hx
    simp [mat, mrow]
    omega)]
  simp only [Option.bind_some]
  rw [mat_len]
  obtain ⟨I', rows', c', h⟩ := rank_l17 hp (show r ≤ 1000 by omega) (show c ≤ 1000 by omega) c 0 0 (List.range r) (mat f r c) (mrow f c) (by omega) (by omega) (mat_rep f r c) (mat_ok hp hr hc hl) (range_nod r)
  rw [show ((0 : Nat) : Int) = 0 from rfl] at h
  rw [h]
  rfl
theorem smod {p x s y : Int} (hp : pr p) (x0 : 0 ≤ x) (x1 : x < p) (s0 : 0 ≤ s) (s1 : s < p) (y0 : 0 ≤ y) (y1 : y < p) : spec_l01Mod p (w64 (x - (w64 (s * y)))) = some ((x - s * y) % p) := by
  unfold spec_l01Mod
  have l := pr_le hp
  rw [if_pos (by omega), modfix hp x0 x1 s0 s1 y0 y1]
theorem srow_l8 (f : Form) {r c i : Nat} (hr : r ≤ 3) (hc : c ≤ 3) (hi : i < r) : iter (fun s : Int × List Int => spec_l01Rank_l8 f (c : Int) (i : Int) s.1 s.2) (0, []) = some (.stop ((c : Int), mrow f c i)) := by
  have h1 : i * c + c ≤ r * c := by rw [← Nat.succ_mul]; exact Nat.mul_le_mul_right _ hi
  have h9 := rc_le hr hc
  have := iter_up (body := fun s : Int × List Int => spec_l01Rank_l8 f (c : Int) (i : Int) s.1 s.2) (fun j => ((j : Int), (List.range j).map fun t => ent f (i * c + t))) c (s' := ((c : Int), mrow f c i)) (fun j hj => by
    show spec_l01Rank_l8 f (c : Int) (i : Int) (j : Int) _ = _
    unfold spec_l01Rank_l8
    have e : w64 ((w64 ((i : Int) * (c : Int))) + (j : Int)) = ((i * c + j : Nat) : Int) := by
      rw [w64_mul (by omega) hc, w64_id (by omega) (by omega)]; omega
    rw [dtt (by omega), if_pos rfl, e, if_pos ⟨by omega, by omega⟩, if_pos (by simp; omega), w64s (by omega), List.range_succ, List.map_append]
    rfl) (by
    show spec_l01Rank_l8 f (c : Int) (i : Int) (c : Int) _ = _
    unfold spec_l01Rank_l8
    rw [dff (by omega), if_neg (by decide)]
    rfl)
  simpa using this
theorem srow_l1 (f : Form) {r c : Nat} (hr : r ≤ 3) (hc : c ≤ 3) : iter (fun s : Int × List Nat × List (List Int) => spec_l01Rank_l1 f (r : Int) (c : Int) s.1 s.2.1 s.2.2) (0, [], []) = some (.stop ((r : Int), List.range r, mat f r c)) := by
  have := iter_up (body := fun s : Int × List Nat × List (List Int) => spec_l01Rank_l1 f (r : Int) (c : Int) s.1 s.2.1 s.2.2) (fun j => ((j : Int), List.range j, (mat f r c).take j)) r (s' := ((r : Int), List.range r, mat f r c)) (fun j hj => by
    show spec_l01Rank_l1 f (r : Int) (c : Int) (j : Int) (List.range j) ((mat f r c).take j) = _
    unfold spec_l01Rank_l1
    have hm : (mat f r c).length = r := mat_len f r c
    rw [dtt (by omega), if_pos rfl, srow_l8 f hr hc hj]
    simp only [Option.bind_some]
    have e : mrow f c j = (mat f r c)[j]'(by omega) := by simp [mat]
    rw [if_pos (by simp; omega), w64s (by omega), List.range_succ, e, List.take_append_getElem (show j < (mat f r c).length by omega), List.length_take, hm, Nat.min_eq_left (by omega)]) (by
    show spec_l01Rank_l1 f (r : Int) (c : Int) (r : Int) (List.range r) ((mat f r c).take r) = _
    unfold spec_l01Rank_l1
    rw [dff (by omega), if_neg (by decide), List.take_of_length_le (by rw [mat_len]; omega)])
  simpa using this
theorem srank_l26 {M : Nat → List Int} {n m c : Nat} (hc : c < m) {I : List Nat} {rows : List (List Int)} (hR : Rep n I rows M) (hlen : ∀ k, k < n → (M k).length = m) (hn : n ≤ 1000) : ∀ (d k : Nat), k + d = n → iter (fun s => spec_l01Rank_l26 (n : Int) (c : Int) I rows s) (k : Int) = some (.stop (match fb M c k d with | none => (n : Int) | some b => (b : Int)))
  | 0, k, hk => by
    have : k = n := by omega
    subst this
    apply iter_stop
    unfold spec_l01Rank_l26
    rw [dff (by omega)]
    rfl
  | d + 1, k, hk => by
    have hb : spec_l01Rank_l26 (n : Int) (c : Int) I rows (k : Int) = if gl 0 (M k) (c : Int) ≠ 0 then some (.stop (k : Int)) else some (.next ((k + 1 : Nat) : Int)) := by
      unfold spec_l01Rank_l26
      rw [dtt (by omega), if_pos rfl, hR.len, if_pos ⟨by omega, by omega⟩, hR.at_ k (by omega), hlen k (by omega), if_pos ⟨by omega, by omega⟩, w64s (by omega)]
      by_cases h : gl 0 (M k) (c : Int) ≠ 0
      · rw [dff (by omega), if_pos h]; rfl
      · rw [dtt (by omega), if_neg h]; rfl
    unfold fb
    by_cases h : gl 0 (M k) (c : Int) ≠ 0
    · rw [iter_stop (s' := (k : Int)) (by rw [hb, if_pos h]), if_pos h]
    · rw [iter_next (s' := ((k + 1 : Nat) : Int)) (by rw [hb, if_neg h]), if_neg h]
      exact srank_l26 hc hR hlen hn d (k + 1) (by omega)
theorem srank_l59 {p : Int} (hp : pr p) {n m : Nat} {M : Nat → List Int} (hM : Mok p n m M) {I s22 : List Nat} {rows : List (List Int)} {k i c : Nat} {s27 y : Int} (hk : k < n) (hi : i < n) (hc : c < m) (y0 : 0 ≤ y) (y1 : y < p) (hm : m ≤ 1000)
    (h1 : rows.getD (gl 0 I (k : Int)) [] = M k) (h2 : rows.getD (gl 0 s22 s27) [] = M i) :
    iter (fun s : Int × List Int => spec_l01Rank_l59 p (m : Int) (c : Int) s22 s27 y (k : Int) I rows s.1 s.2) (0, []) = some (.stop ((m : Int), rop p ((gl 0 (M k) (c : Int) * y) % p) (M k) (M i))) := by
  have l := pr_le hp
  have hcc := hM.rng k hk c
  have hs := mulmod hp hcc.1 hcc.2 y0 y1
  have s0 := Int.emod_nonneg (gl 0 (M k) (c : Int) * y) (show p ≠ 0 by omega)
  have s1 := Int.emod_lt_of_pos (gl 0 (M k) (c : Int) * y) l.1
  have := iter_up (body := fun s : Int × List Int => spec_l01Rank_l59 p (m : Int) (c : Int) s22 s27 y (k : Int) I rows s.1 s.2) (fun t => ((t : Int), (List.range t).map fun l : Nat => (gl 0 (M k) (l : Int) - ((gl 0 (M k) (c : Int) * y) % p) * gl 0 (M i) (l : Int)) % p)) m (s' := ((m : Int), rop p ((gl 0 (M k) (c : Int) * y) % p) (M k) (M i))) (fun t ht => by
    show spec_l01Rank_l59 p (m : Int) (c : Int) s22 s27 y (k : Int) I rows (t : Int) _ = _
    unfold spec_l01Rank_l59
    have xr := hM.rng k hk t
    have yr := hM.rng i hi t
    rw [h1, h2, hM.len k hk, hM.len i hi, dtt (by omega), if_pos rfl, if_pos ⟨by omega, by omega⟩, if_pos ⟨by omega, by omega⟩, hs, smod hp xr.1 xr.2 s0 s1 yr.1 yr.2]
    simp only [Option.bind_some]
    rw [if_pos (by simp; omega), w64s (by omega), List.range_succ, List.map_append]
    rfl) (by
    show spec_l01Rank_l59 p (m : Int) (c : Int) s22 s27 y (k : Int) I rows (m : Int) _ = _
    unfold spec_l01Rank_l59
    rw [dff (by omega), if_neg (by decide)]
    unfold rop
    rw [hM.len k hk])
  simpa using this
theorem srank_l48 {p : Int} (hp : pr p) {n m : Nat} {M : Nat → List Int} (hM : Mok p n m M) {i c : Nat} (hi : i < n) (hn : n ≤ 1000) (hc : c < m) (hm : m ≤ 1000) {s22 : List Nat} {s27 : Int} (hy : 0 < inv p (gl 0 (M i) (c : Int)) ∧ inv p (gl 0 (M i) (c : Int)) < p) : ∀ (d k : Nat) (I : List Nat) (rows : List (List Int)), k + d = n → i < k → gl 0 s22 s27 < rows.length → rows.getD (gl 0 s22 s27) [] = M i → Rep n I rows (fun t => if i < t ∧ t < k then rop p ((gl 0 (M t) (c : Int) * inv p (gl 0 (M i) (c : Int))) % p) (M t) (M i) else M t) →
    ∃ I' rows', iter (fun s : Int × List Nat × List (List Int) => spec_l01Rank_l48 p (n : Int) (m : Int) (c : Int) s22 s27 (inv p (gl 0 (M i) (c : Int))) s.1 s.2.1 s.2.2) ((k : Int), I, rows) = some (.stop ((n : Int), I', rows')) ∧ Rep n I' rows' (elM p M n i c)
  | 0, k, I, rows, hk, hik, hl, hr, hR => by
    have : k = n := by omega
    subst this
    refine ⟨I, rows, iter_stop ?_, hR⟩
    show spec_l01Rank_l48 p (k : Int) (m : Int) (c : Int) s22 s27 _ (k : Int) I rows = _
    unfold spec_l01Rank_l48
    rw [dff (by omega), if_neg (by decide)]
  | d + 1, k, I, rows, hk, hik, hl, hr, hR => by
    have hkn : k < n := by omega
    have hp0 := pr_le hp
    have hrk := hR.at_ k hkn
    simp only [Nat.lt_irrefl, and_false, if_false] at hrk
    generalize hS : rop p ((gl 0 (M k) (c : Int) * inv p (gl 0 (M i) (c : Int))) % p) (M k) (M i) = S
    have hkI : k < I.length := by rw [hR.len]; exact hkn
    have hg : ∀ t : Nat, t < n → gl 0 (I.set k rows.length) (t : Int) = if t = k then rows.length else gl 0 I (t : Int) := fun t ht => gl_set_nat hkI
    have hap : ∀ a : Nat, a < rows.length → (rows ++ [S]).getD a [] = rows.getD a [] := fun a ha => by
      rw [List.getD_eq_getElem?_getD, List.getD_eq_getElem?_getD, List.getElem?_append_left ha]
    have hR' : Rep n (I.set k rows.length) (rows ++ [S]) (fun t => if i < t ∧ t < k + 1 then rop p ((gl 0 (M t) (c : Int) * inv p (gl 0 (M i) (c : Int))) % p) (M t) (M i) else M t) := by
      refine ⟨by rw [List.length_set]; exact hR.len, fun t ht => ?_, fun t ht => ?_⟩
      · rw [hg t ht]
        have := hR.lt t ht
        split <;> simp <;> omega
      · rw [hg t ht]
        by_cases htk : t = k
        · subst htk
          rw [if_pos rfl, if_pos ⟨hik, by omega⟩, hS, List.getD_eq_getElem?_getD, List.getElem?_append_right (Nat.le_refl _)]
          simp
        · rw [if_neg htk, hap _ (hR.lt t ht), hR.at_ t ht]
          by_cases h1 : i < t ∧ t < k
          · rw [if_pos h1, if_pos ⟨h1.1, by omega⟩]
          · rw [if_neg h1, if_neg (by omega)]
    obtain ⟨I', rows', e1, e2⟩ := srank_l48 hp hM hi hn hc hm (s22 := s22) (s27 := s27) hy d (k + 1) (I.set k rows.length) (rows ++ [S]) (by omega) (by omega) (by simp; omega) (by rw [hap _ hl]; exact hr) hR'
    refine ⟨I', rows', ?_, e2⟩
    rw [iter_next (s' := (((k + 1 : Nat) : Int), I.set k rows.length, rows ++ [S])), e1]
    show spec_l01Rank_l48 p (n : Int) (m : Int) (c : Int) s22 s27 _ (k : Int) I rows = _
    unfold spec_l01Rank_l48
    rw [dtt (by omega), if_pos rfl, hR.len, if_pos ⟨by omega, by omega⟩, hrk, hM.len k hkn, if_pos ⟨by omega, by omega⟩, if_pos (by omega), srank_l59 hp hM hkn hi hc (by omega) hy.2 hm hrk hr, hS]
    simp only [Option.bind_some]
    rw [w64s (by omega), Int.toNat_natCast]
theorem srank_l19 {p : Int} (hp : pr p) {n m : Nat} (hn : n ≤ 1000) (hm : m ≤ 1000) : ∀ (d c i : Nat) (I : List Nat) (rows : List (List Int)) (M : Nat → List Int), c + d = m → i ≤ n → Rep n I rows M → Mok p n m M →
    ∃ I' rows' c', iter (fun s : Int × Int × List Nat × List (List Int) => spec_l01Rank_l19 p (n : Int) (m : Int) s.1 s.2.1 s.2.2.1 s.2.2.2) ((i : Int), (c : Int), I, rows) = some (.stop ((rk p n d c i M : Int), c', I', rows'))
  | 0, c, i, I, rows, M, hc, hi, hR, hM => by
    refine ⟨I, rows, c, iter_stop ?_⟩
    show spec_l01Rank_l19 p (n : Int) (m : Int) (i : Int) (c : Int) I rows = _
    unfold spec_l01Rank_l19
    rw [dff (by omega), if_neg (by decide)]
    rfl
  | d + 1, c, i, I, rows, M, hc, hi, hR, hM => by
    have hcm : c < m := by omega
    have hx := srank_l26 hcm hR hM.len hn (n - i) i (by omega)
    cases hfb : fb M c i (n - i) with
    | none =>
      obtain ⟨I', rows', c', h⟩ := srank_l19 hp hn hm d (c + 1) i I rows M (by omega) hi hR hM
      refine ⟨I', rows', c', ?_⟩
      rw [iter_next (s' := ((i : Int), ((c + 1 : Nat) : Int), I, rows)), h]
      · rw [rk, hfb]
      · show spec_l01Rank_l19 p (n : Int) (m : Int) (i : Int) (c : Int) I rows = _
        unfold spec_l01Rank_l19
        rw [dtt (by omega), if_pos rfl, hx, hfb]
        simp only [Option.bind_some, decide_true, if_true]
        rw [w64s (by omega)]
    | some b =>
      obtain ⟨b0, b1, b2⟩ := fb_some hfb
      have hb : b < n := by omega
      have hiN : i < n := by omega
      have hR2 := swI_rep hR hiN hb
      have hM2 := hM.sw hiN hb
      have hMi : swM M i b i = M b := by unfold swM; rw [if_pos rfl]
      have hv := hM.rng b hb c
      have hpos : 0 < gl 0 (M b) (c : Int) := by omega
      have hinv := inv_range hp hpos hv.2
      have hsw : (I.set b (gl 0 I (i : Int))).set i (gl 0 I (b : Int)) = swI I i b := by
        unfold swI
        by_cases h : i = b
        · subst h; rfl
        · exact (List.set_comm _ _ h).symm
      obtain ⟨I2, rows2, e1, e2⟩ := srank_l48 hp hM2 hiN hn hcm hm (s22 := I) (s27 := (b : Int)) (by rw [hMi]; exact ⟨hinv.1, hinv.2.1⟩) (n - (i + 1)) (i + 1) (swI I i b) rows (by omega) (by omega) (hR.lt b hb) (by rw [hMi]; exact hR.at_ b hb) (by
        have : (fun t => if i < t ∧ t < i + 1 then rop p ((gl 0 (swM M i b t) (c : Int) * inv p (gl 0 (swM M i b i) (c : Int))) % p) (swM M i b t) (swM M i b i) else swM M i b t) = swM M i b := by
          funext t
          rw [if_neg (by omega)]
        rw [this]
        exact hR2)
      rw [hMi] at e1
      obtain ⟨I', rows', c', h⟩ := srank_l19 hp hn hm d (c + 1) (i + 1) I2 rows2 _ (by omega) (by omega) e2 (hM2.el hp i c)
      refine ⟨I', rows', c', ?_⟩
      rw [iter_next (s' := (((i + 1 : Nat) : Int), ((c + 1 : Nat) : Int), I2, rows2)), h]
      · rw [rk, hfb]
      · show spec_l01Rank_l19 p (n : Int) (m : Int) (i : Int) (c : Int) I rows = _
        unfold spec_l01Rank_l19
        rw [dtt (by omega), if_pos rfl, hx, hfb]
        simp only [Option.bind_some]
        rw [dff (show ¬ (b : Int) = (n : Int) by omega)]
        simp only [Bool.false_eq_true, if_false]
        rw [hR.len, if_pos ⟨by omega, by omega⟩, if_pos ⟨by omega, by omega⟩, if_pos (by rw [List.length_set, hR.len]; exact ⟨by omega, by omega⟩), hR.at_ b hb, hM.len b hb, if_pos ⟨by omega, by omega⟩, inverse_s hp hpos hv.2]
        simp only [Option.bind_some]
        rw [Int.toNat_natCast, Int.toNat_natCast, hsw, w64s (by omega), e1]
        simp only [Option.bind_some]
        rw [w64s (by omega)]
theorem rank_s {p : Int} {f : Form} {r c : Nat} (hp : pr p) (hr : r ≤ 3) (hc : c ≤ 3) (hl : ∀ j, (hj : j < 9) → ((f[j].toNat : Nat) : Int) < p) : spec_l01Rank p f (r : Int) (c : Int) = some (rk p r c 0 0 (mrow f c) : Int) := by
  unfold spec_l01Rank
  rw [srow_l1 f hr hc]
  simp only [Option.bind_some]
  obtain ⟨I', rows', c', h⟩ := srank_l19 hp (show r ≤ 1000 by omega) (show c ≤ 1000 by omega) c 0 0 (List.range r) (mat f r c) (mrow f c) (by omega) (by omega) (mat_rep f r c) (mat_ok hp hr hc hl)
  rw [show ((0 : Nat) : Int) = 0 from rfl] at h
  rw [h]
  rfl
end Go.Proofs.YtB
