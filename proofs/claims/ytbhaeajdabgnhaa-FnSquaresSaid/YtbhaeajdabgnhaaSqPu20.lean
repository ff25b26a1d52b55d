/- Plain laws: the program's rank. -/
import Derived.Test.YtbhaeajdabgnhaaSqPu19
import Derived.Test.YtbhaeajdabgnhaaSqG1
set_option linter.unusedVariables false
set_option linter.unusedSimpArgs false
namespace Go.Proofs.YtB
open Go Go.RowKit Go.Proofs
theorem mul_bd {p s y : Int} (hp : pr p) (s0 : 0 ≤ s) (s1 : s < p) (y0 : 0 ≤ y) (y1 : y < p) : 0 ≤ s * y ∧ s * y ≤ 25 := by
  have h1 := Int.mul_nonneg s0 y0
  have hp5 : p ≤ 5 := by unfold pr at hp; omega
  have h2 : s * y ≤ 5 * 5 := Int.mul_le_mul (by omega) (by omega) (by omega) (by omega)
  omega
theorem modfix {p x s y : Int} (hp : pr p) (x0 : 0 ≤ x) (x1 : x < p) (s0 : 0 ≤ s) (s1 : s < p) (y0 : 0 ≤ y) (y1 : y < p) : (w64 (((w64 (x - (w64 (s * y)))).tmod p) + p)).tmod p = (x - s * y) % p := by
  have l := pr_le hp
  have hp5 : p ≤ 5 := by unfold pr at hp; omega
  have hm := mul_bd hp s0 s1 y0 y1
  rw [w64_lit (x := s * y) (by omega) (by omega), w64_lit (x := x - s * y) (by omega) (by omega)]
  have a1 := Int.tmod_lt_of_pos (x - s * y) l.1
  have a2 : -p < (x - s * y).tmod p := Int.lt_tmod_of_pos _ l.1
  rw [w64_lit (by omega) (by omega), Int.tmod_eq_emod_of_nonneg (by omega), Int.add_emod_right, Int.tmod_def, Int.sub_mul_emod_self_left]
theorem mulmod {p x y : Int} (hp : pr p) (x0 : 0 ≤ x) (x1 : x < p) (y0 : 0 ≤ y) (y1 : y < p) : (w64 (x * y)).tmod p = (x * y) % p := by
  have hm := mul_bd hp x0 x1 y0 y1
  rw [w64_lit (by omega) (by omega), Int.tmod_eq_emod_of_nonneg (by omega)]
theorem getD_set {rows : List (List Int)} {a b : Nat} {x : List Int} (ha : a < rows.length) : (rows.set a x).getD b [] = if b = a then x else rows.getD b [] := by
  rw [List.getD_eq_getElem?_getD, List.getD_eq_getElem?_getD, List.getElem?_set]
  split
  · rename_i h; subst h; simp [ha]
  · rename_i h; rw [if_neg (Ne.symm h)]
theorem set_self {rows : List (List Int)} {a : Nat} (ha : a < rows.length) : rows.set a (rows.getD a []) = rows := by
  rw [List.getD_eq_getElem?_getD, List.getElem?_eq_getElem ha]
  exact List.set_getElem_self ha
theorem mix_set {R X : List Int} {l : Nat} {v : Int} (hl : l < X.length) (hRX : R.length = X.length) (hv : gl 0 R (l : Int) = v) : (R.take l ++ X.drop l).set l v = R.take (l + 1) ++ X.drop (l + 1) := by
  have h1 : (R.take l).length = l := by rw [List.length_take]; omega
  rw [List.set_append_right _ _ (by omega), h1, Nat.sub_self, List.drop_eq_getElem_cons hl, List.set_cons_zero, ← List.take_append_getElem (show l < R.length by omega), List.append_assoc, ← hv, gl_nat (show l < R.length by omega)]
  rfl
theorem mix_get {R X : List Int} {l : Nat} (hl : l < X.length) (hRX : R.length = X.length) : gl 0 (R.take l ++ X.drop l) (l : Int) = gl 0 X (l : Int) := by
  have h1 : (R.take l).length = l := by rw [List.length_take]; omega
  unfold gl
  rw [Int.toNat_natCast, List.getD_eq_getElem?_getD, List.getD_eq_getElem?_getD, List.getElem?_append_right (by omega), h1, List.getElem?_drop]
  simp
theorem rop_len (p s : Int) (x y : List Int) : (rop p s x y).length = x.length := by simp [rop]
theorem rop_get {p s : Int} {x y : List Int} {l : Nat} (hl : l < x.length) : gl 0 (rop p s x y) (l : Int) = (gl 0 x (l : Int) - s * gl 0 y (l : Int)) % p := by
  unfold rop
  rw [gl_map, if_pos hl]
/-- the innermost loop: row k becomes less s times row i -/
theorem rank_l56 {p : Int} (hp : pr p) {n m : Nat} {M : Nat → List Int} (hM : Mok p n m M) {I s19 : List Nat} {rows : List (List Int)} (hR : Rep n I rows M) (hnd : ∀ a b, a < n → b < n → gl 0 I (a : Int) = gl 0 I (b : Int) → a = b) {i k c : Nat} (hik : i < k) (hk : k < n) (hc : c < m) {x30 y : Int} (y0 : 0 ≤ y) (y1 : y < p) (hm : m ≤ 1000)
    (hI : (((s19.set ((i : Int)).toNat (gl 0 s19 (w64 ((i : Int) + x30)))).set (w64 ((i : Int) + x30)).toNat (gl 0 s19 (i : Int)))) = I) :
    iter (fun s : Int × List (List Int) => impl_rank_l56 p (i : Int) s19 (c : Int) x30 y (k : Int) rows s.1 s.2) (0, rows) = some (.stop ((m : Int), rows.set (gl 0 I (k : Int)) (rop p ((gl 0 (M k) (c : Int) * y) % p) (M k) (M i)))) := by
  have l := pr_le hp
  have hid := hR.lt k hk
  have hidi := hR.lt i (by omega)
  have hne : gl 0 I (i : Int) ≠ gl 0 I (k : Int) := fun h => by have := hnd i k (by omega) hk h; omega
  have hrk : rows.getD (gl 0 I (k : Int)) [] = M k := hR.at_ k hk
  have hri : rows.getD (gl 0 I (i : Int)) [] = M i := hR.at_ i (by omega)
  have hlk := hM.len k hk
  have hli := hM.len i (by omega)
  have hcc := hM.rng k hk c
  have hs := mulmod hp hcc.1 hcc.2 y0 y1
  generalize hS : rop p ((gl 0 (M k) (c : Int) * y) % p) (M k) (M i) = S
  have hSl : S.length = m := by rw [← hS, rop_len]; exact hlk
  have s0 := Int.emod_nonneg (gl 0 (M k) (c : Int) * y) (show p ≠ 0 by omega)
  have s1 := Int.emod_lt_of_pos (gl 0 (M k) (c : Int) * y) l.1
  have h := iter_up (body := fun s : Int × List (List Int) => impl_rank_l56 p (i : Int) s19 (c : Int) x30 y (k : Int) rows s.1 s.2) (fun t => ((t : Int), rows.set (gl 0 I (k : Int)) (S.take t ++ (M k).drop t))) m (s' := ((m : Int), rows.set (gl 0 I (k : Int)) S)) (fun t ht => by
    show impl_rank_l56 p (i : Int) s19 (c : Int) x30 y (k : Int) rows (t : Int) (rows.set (gl 0 I (k : Int)) (S.take t ++ (M k).drop t)) = _
    unfold impl_rank_l56
    simp only [hI]
    have hrow : (rows.set (gl 0 I (k : Int)) (S.take t ++ (M k).drop t)).getD (gl 0 I (k : Int)) [] = S.take t ++ (M k).drop t := by rw [getD_set hid, if_pos rfl]
    have hrowi : (rows.set (gl 0 I (k : Int)) (S.take t ++ (M k).drop t)).getD (gl 0 I (i : Int)) [] = M i := by rw [getD_set hid, if_neg hne, hri]
    have hml : (S.take t ++ (M k).drop t).length = m := by simp; omega
    rw [hrk, hrow, hrowi, hml, hlk, hli, dtt (show (t : Int) < (m : Int) by omega), if_pos rfl, if_pos ⟨by omega, by omega⟩, if_pos ⟨by omega, by omega⟩, w64s (by omega), mix_get (by omega) (by omega), hs]
    have xr := hM.rng k hk t
    have yr := hM.rng i (by omega) t
    rw [modfix hp xr.1 xr.2 s0 s1 yr.1 yr.2, List.set_set, Int.toNat_natCast, mix_set (by omega) (by omega) (by rw [← hS]; exact rop_get (by omega))]) (by
    show impl_rank_l56 p (i : Int) s19 (c : Int) x30 y (k : Int) rows (m : Int) (rows.set (gl 0 I (k : Int)) (S.take m ++ (M k).drop m)) = _
    unfold impl_rank_l56
    simp only [hI]
    rw [hrk, hlk, dff (by omega), if_neg (by decide), List.take_of_length_le (by omega), List.drop_of_length_le (by omega), List.append_nil])
  have h0 : rows.set (gl 0 I (k : Int)) (S.take 0 ++ (M k).drop 0) = rows := by
    rw [List.take_zero, List.nil_append, List.drop_zero, ← hrk]
    exact set_self hid
  rw [h0] at h
  exact h
/-- the rows from k on are done -/
theorem rank_l46 {p : Int} (hp : pr p) {n m : Nat} {M : Nat → List Int} (hM : Mok p n m M) {I s19 : List Nat} (hnd : ∀ a b, a < n → b < n → gl 0 I (a : Int) = gl 0 I (b : Int) → a = b) {i c : Nat} (hi : i < n) (hn : n ≤ 1000) (hc : c < m) {x30 : Int} (hm : m ≤ 1000) (hy : 0 < inv p (gl 0 (M i) (c : Int)) ∧ inv p (gl 0 (M i) (c : Int)) < p)
    (hI : (((s19.set ((i : Int)).toNat (gl 0 s19 (w64 ((i : Int) + x30)))).set (w64 ((i : Int) + x30)).toNat (gl 0 s19 (i : Int)))) = I) : ∀ (d k : Nat) (rows : List (List Int)), k + d = n → i < k → Rep n I rows (fun t => if i < t ∧ t < k then rop p ((gl 0 (M t) (c : Int) * inv p (gl 0 (M i) (c : Int))) % p) (M t) (M i) else M t) →
    ∃ rows', iter (fun s : Int × List (List Int) => impl_rank_l46 p (i : Int) s19 (c : Int) x30 (inv p (gl 0 (M i) (c : Int))) s.1 s.2) ((k : Int), rows) = some (.stop ((n : Int), rows')) ∧ Rep n I rows' (elM p M n i c)
  | 0, k, rows, hk, hik, hR => by
    have : k = n := by omega
    subst this
    refine ⟨rows, iter_stop ?_, hR⟩
    show impl_rank_l46 p (i : Int) s19 (c : Int) x30 _ (k : Int) rows = _
    unfold impl_rank_l46
    simp only [hI]
    rw [hR.len, dff (by omega), if_neg (by decide)]
  | d + 1, k, rows, hk, hik, hR => by
    have hkn : k < n := by omega
    have hM2 : Mok p n m (fun t => if i < t ∧ t < k then rop p ((gl 0 (M t) (c : Int) * inv p (gl 0 (M i) (c : Int))) % p) (M t) (M i) else M t) := by
      have l := pr_le hp
      constructor
      · intro t ht
        split
        · rw [rop_len]; exact hM.len t ht
        · exact hM.len t ht
      · intro t ht u
        split
        · unfold rop
          rw [gl_map]
          split
          · exact ⟨Int.emod_nonneg _ (by omega), Int.emod_lt_of_pos _ l.1⟩
          · omega
        · exact hM.rng t ht u
    have h56 := rank_l56 hp hM2 hR hnd hik hkn hc (x30 := x30) (y := inv p (gl 0 (M i) (c : Int))) (by omega) hy.2 hm hI
    simp only [Nat.lt_irrefl, and_false, false_and, if_false] at h56
    have hid := hR.lt k hkn
    have hR' : Rep n I (rows.set (gl 0 I (k : Int)) (rop p ((gl 0 (M k) (c : Int) * inv p (gl 0 (M i) (c : Int))) % p) (M k) (M i))) (fun t => if i < t ∧ t < k + 1 then rop p ((gl 0 (M t) (c : Int) * inv p (gl 0 (M i) (c : Int))) % p) (M t) (M i) else M t) := by
      refine ⟨hR.len, fun t ht => by rw [List.length_set]; exact hR.lt t ht, fun t ht => ?_⟩
      rw [getD_set hid]
      by_cases htk : t = k
      · subst htk
        rw [if_pos rfl, if_pos ⟨hik, by omega⟩]
      · rw [if_neg (fun h => htk (hnd t k ht hkn h)), hR.at_ t ht]
        by_cases h1 : i < t ∧ t < k
        · rw [if_pos h1, if_pos ⟨h1.1, by omega⟩]
        · rw [if_neg h1, if_neg (by omega)]
    obtain ⟨rows', e1, e2⟩ := rank_l46 hp hM hnd hi hn hc hm hy hI d (k + 1) _ (by omega) (by omega) hR'
    refine ⟨rows', ?_, e2⟩
    rw [iter_next (s' := (((k + 1 : Nat) : Int), rows.set (gl 0 I (k : Int)) (rop p ((gl 0 (M k) (c : Int) * inv p (gl 0 (M i) (c : Int))) % p) (M k) (M i)))) ?_]
    · exact e1
    · show impl_rank_l46 p (i : Int) s19 (c : Int) x30 _ (k : Int) rows = _
      unfold impl_rank_l46
      simp only [hI]
      have hrk := hR.at_ k hkn
      simp only [Nat.lt_irrefl, and_false, if_false] at hrk
      rw [hR.len, dtt (show (k : Int) < (n : Int) by omega), if_pos rfl, if_pos ⟨by omega, by omega⟩, hrk, hM.len k hkn, if_pos ⟨by omega, by omega⟩, if_pos (show p ≠ 0 by have := pr_le hp; omega), h56]
      simp only [Option.bind_some]
      rw [w64s (by omega)]
/-- the program's search for a row -/
theorem index_fb {M : Nat → List Int} {n m c : Nat} (hc : c < m) (hlen : ∀ k, k < n → (M k).length = m) : ∀ (d k i : Nat) (L : List (List Int)), k + d = n → i ≤ k → L.length = n - i → n ≤ 1000 → (∀ t, t < n - i → gl [] L (t : Int) = M (i + t)) →
    (iter (fun s => slices_IndexFunc_108_f149_l1 L (c : Int) s) ((k - i : Nat) : Int)).bind (fun o => match o with | .stop s2 => (some ((-1 : Int))) | .ret r => some r | .next _ => none) = some (match fb M c k d with | none => -1 | some b => ((b - i : Nat) : Int))
  | 0, k, i, L, hk, hik, hL, hn, hg => by
    rw [iter_stop (s' := ((k - i : Nat) : Int)) (by
      show slices_IndexFunc_108_f149_l1 L (c : Int) _ = _
      unfold slices_IndexFunc_108_f149_l1
      rw [hL, dff (by omega), if_neg (by decide)])]
    rfl
  | d + 1, k, i, L, hk, hik, hL, hn, hg => by
    have hb : slices_IndexFunc_108_f149_l1 L (c : Int) ((k - i : Nat) : Int) = if gl 0 (M k) (c : Int) ≠ 0 then some (.ret ((k - i : Nat) : Int)) else some (.next ((k + 1 - i : Nat) : Int)) := by
      unfold slices_IndexFunc_108_f149_l1 impl_rank_1
      rw [hL, dtt (by omega), if_pos rfl, if_pos (by omega), hg (k - i) (by omega), show i + (k - i) = k by omega, hlen k (by omega), if_pos (by omega)]
      simp only [Option.bind_some]
      rw [w64s (by omega), show k - i + 1 = k + 1 - i by omega]
      by_cases h : gl 0 (M k) (c : Int) ≠ 0
      · rw [dtt h, if_pos h]; rfl
      · rw [dff h, if_neg h]; rfl
    unfold fb
    by_cases h : gl 0 (M k) (c : Int) ≠ 0
    · rw [iter_ret (r := ((k - i : Nat) : Int)) (by rw [hb, if_pos h]), if_pos h]
      rfl
    · rw [iter_next (s' := ((k + 1 - i : Nat) : Int)) (by rw [hb, if_neg h]), if_neg h]
      exact index_fb hc hlen d (k + 1) i L (by omega) (by omega) hL hn hg
end Go.Proofs.YtB
