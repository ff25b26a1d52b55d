/- Plain laws: the program's inverse of a square. -/
import Derived.Test.YtbhaeajdabgnhaaSqPu23
import Derived.Test.YtbhaeajdabgnhaaSqG1
set_option linter.unusedVariables false
set_option linter.unusedSimpArgs false
namespace Go.Proofs.YtB
open Go Go.RowKit Go.Proofs
def scl (p y : Int) (X : List Int) : List Int := (List.range X.length).map fun l : Nat => (gl 0 X (l : Int) * y) % p
def updM (M : Nat → List Int) (c : Nat) (X : List Int) : Nat → List Int := fun k => if k = c then X else M k
/-- all rows but row c become 0 in column c -/
def elX (p : Int) (M : Nat → List Int) (n c : Nat) : Nat → List Int := fun k => if k ≠ c ∧ k < n then rop p (gl 0 (M k) (c : Int)) (M k) (M c) else M k
def gjM (p : Int) (M : Nat → List Int) (n c : Nat) : Nat → List Int := elX p (updM M c (scl p (inv p (gl 0 (M c) (c : Int))) (M c))) n c
def gj (p : Int) (n : Nat) : Nat → Nat → (Nat → List Int) → Option (Nat → List Int)
  | 0, _, M => some M
  | d + 1, c, M => match fb M c c (n - c) with
    | none => none
    | some b => gj p n d (c + 1) (gjM p (swM M c b) n c)
theorem scl_len (p y : Int) (X : List Int) : (scl p y X).length = X.length := by simp [scl]
theorem scl_get {p y : Int} {X : List Int} {l : Nat} (hl : l < X.length) : gl 0 (scl p y X) (l : Int) = (gl 0 X (l : Int) * y) % p := by
  unfold scl
  rw [gl_map, if_pos hl]
theorem Mok.upd {p : Int} {n m : Nat} {M : Nat → List Int} (hp : pr p) (h : Mok p n m M) {c : Nat} (hc : c < n) (y : Int) : Mok p n m (updM M c (scl p y (M c))) := by
  have l := pr_le hp
  constructor
  · intro k hk
    unfold updM
    split
    · rw [scl_len]; exact h.len c hc
    · exact h.len k hk
  · intro k hk t
    unfold updM
    split
    · unfold scl
      rw [gl_map]
      split
      · exact ⟨Int.emod_nonneg _ (by omega), Int.emod_lt_of_pos _ l.1⟩
      · omega
    · exact h.rng k hk t
theorem rop_rng {p s : Int} (hp : pr p) (X Y : List Int) (t : Nat) : 0 ≤ gl 0 (rop p s X Y) (t : Int) ∧ gl 0 (rop p s X Y) (t : Int) < p := by
  have l := pr_le hp
  unfold rop
  rw [gl_map]
  split
  · exact ⟨Int.emod_nonneg _ (by omega), Int.emod_lt_of_pos _ l.1⟩
  · omega
theorem Mok.elX {p : Int} {n m : Nat} {M : Nat → List Int} (hp : pr p) (h : Mok p n m M) (c : Nat) : Mok p n m (elX p M n c) := by
  constructor
  · intro k hk
    unfold YtB.elX
    split
    · rw [rop_len]; exact h.len k hk
    · exact h.len k hk
  · intro k hk t
    unfold YtB.elX
    split
    · exact rop_rng hp _ _ t
    · exact h.rng k hk t
theorem Mok.gj {p : Int} {n m : Nat} {M : Nat → List Int} (hp : pr p) (h : Mok p n m M) {c : Nat} (hc : c < n) : Mok p n m (gjM p M n c) := (h.upd hp hc _).elX hp c
theorem index_fb2 {M : Nat → List Int} {n m c : Nat} (hc : c < m) (hlen : ∀ k, k < n → (M k).length = m) : ∀ (d k i : Nat) (L : List (List Int)), k + d = n → i ≤ k → L.length = n - i → n ≤ 1000 → (∀ t, t < n - i → gl [] L (t : Int) = M (i + t)) →
    (iter (fun s => slices_IndexFunc_108_f109_l1 L (c : Int) s) ((k - i : Nat) : Int)).bind (fun o => match o with | .stop s2 => (some ((-1 : Int))) | .ret r => some r | .next _ => none) = some (match fb M c k d with | none => -1 | some b => ((b - i : Nat) : Int))
  | 0, k, i, L, hk, hik, hL, hn, hg => by
    rw [iter_stop (s' := ((k - i : Nat) : Int)) (by
      show slices_IndexFunc_108_f109_l1 L (c : Int) _ = _
      unfold slices_IndexFunc_108_f109_l1
      rw [hL, dff (by omega), if_neg (by decide)])]
    rfl
  | d + 1, k, i, L, hk, hik, hL, hn, hg => by
    have hb : slices_IndexFunc_108_f109_l1 L (c : Int) ((k - i : Nat) : Int) = if gl 0 (M k) (c : Int) ≠ 0 then some (.ret ((k - i : Nat) : Int)) else some (.next ((k + 1 - i : Nat) : Int)) := by
      unfold slices_IndexFunc_108_f109_l1 impl_inverted_1
      rw [hL, dtt (by omega), if_pos rfl, if_pos (by omega), hg (k - i) (by omega), show i + (k - i) = k by omega, hlen k (by omega), if_pos (by omega)]
      simp only [Option.bind_some]
      rw [w64s (by omega), show k - i + 1 = k + 1 - i by omega]
      by_cases h : gl 0 (M k) (c : Int) ≠ 0
      · rw [dtt h, if_pos h]; rfl
      · rw [dff h, if_neg h]; rfl
    unfold fb
    by_cases h : gl 0 (M k) (c : Int) ≠ 0
    · rw [iter_ret (r := ((k - i : Nat) : Int)) (by rw [hb, if_pos h]), if_pos h]
      rfl
    · rw [iter_next (s' := ((k + 1 - i : Nat) : Int)) (by rw [hb, if_neg h]), if_neg h]
      exact index_fb2 hc hlen d (k + 1) i L (by omega) (by omega) hL hn hg
/-- the scaling loop -/
theorem inv_l42 {p : Int} (hp : pr p) {n m : Nat} {M : Nat → List Int} (hM : Mok p n m M) {I s22 : List Nat} {rows : List (List Int)} (hR : Rep n I rows M) {c : Nat} (hc : c < n) {x26 y : Int} (y0 : 0 ≤ y) (y1 : y < p) (hm : m ≤ 1000)
    (hI : ((s22.set ((c : Int)).toNat (gl 0 s22 (w64 ((c : Int) + x26)))).set (w64 ((c : Int) + x26)).toNat (gl 0 s22 (c : Int))) = I) :
    iter (fun s : Int × List (List Int) => impl_inverted_l42 p (c : Int) s22 rows x26 y s.1 s.2) (0, rows) = some (.stop ((m : Int), rows.set (gl 0 I (c : Int)) (scl p y (M c)))) := by
  have l := pr_le hp
  have hid := hR.lt c hc
  have hrc : rows.getD (gl 0 I (c : Int)) [] = M c := hR.at_ c hc
  have hlc := hM.len c hc
  generalize hS : scl p y (M c) = S
  have hSl : S.length = m := by rw [← hS, scl_len]; exact hlc
  have h := iter_up (body := fun s : Int × List (List Int) => impl_inverted_l42 p (c : Int) s22 rows x26 y s.1 s.2) (fun t => ((t : Int), rows.set (gl 0 I (c : Int)) (S.take t ++ (M c).drop t))) m (s' := ((m : Int), rows.set (gl 0 I (c : Int)) S)) (fun t ht => by
    show impl_inverted_l42 p (c : Int) s22 rows x26 y (t : Int) (rows.set (gl 0 I (c : Int)) (S.take t ++ (M c).drop t)) = _
    unfold impl_inverted_l42
    simp only [hI]
    have hrow : (rows.set (gl 0 I (c : Int)) (S.take t ++ (M c).drop t)).getD (gl 0 I (c : Int)) [] = S.take t ++ (M c).drop t := by rw [getD_set hid, if_pos rfl]
    have hml : (S.take t ++ (M c).drop t).length = m := by simp; omega
    have xr := hM.rng c hc t
    rw [hrc, hrow, hml, hlc, dtt (show (t : Int) < (m : Int) by omega), if_pos rfl, if_pos ⟨by omega, by omega⟩, if_pos (show p ≠ 0 by omega), w64s (by omega), mix_get (by omega) (by omega), mulmod hp xr.1 xr.2 y0 y1, List.set_set, Int.toNat_natCast, mix_set (by omega) (by omega) (by rw [← hS]; exact scl_get (by omega))]) (by
    show impl_inverted_l42 p (c : Int) s22 rows x26 y (m : Int) (rows.set (gl 0 I (c : Int)) (S.take m ++ (M c).drop m)) = _
    unfold impl_inverted_l42
    simp only [hI]
    rw [hrc, hlc, dff (by omega), if_neg (by decide), List.take_of_length_le (by omega), List.drop_of_length_le (by omega), List.append_nil])
  have h0 : rows.set (gl 0 I (c : Int)) (S.take 0 ++ (M c).drop 0) = rows := by
    rw [List.take_zero, List.nil_append, List.drop_zero, ← hrc]
    exact set_self hid
  rw [h0] at h
  exact h
theorem addfix {p x s y : Int} (hp : pr p) (x0 : 0 ≤ x) (x1 : x < p) (s0 : 0 ≤ s) (s1 : s < p) (y0 : 0 ≤ y) (y1 : y < p) : (w64 (x + (w64 ((w64 (p - s)) * y)))).tmod p = (x - s * y) % p := by
  have l := pr_le hp
  have hp5 : p ≤ 5 := by unfold pr at hp; omega
  have hm := mul_bd hp y0 y1 s0 s1
  have e : (p - s) * y = p * y - s * y := Int.sub_mul _ _ _
  have hpy := Int.mul_le_mul (show p ≤ 5 by omega) (show y ≤ 5 by omega) y0 (by omega)
  have hps : 0 ≤ (p - s) * y := Int.mul_nonneg (by omega) y0
  have hc : y * s = s * y := Int.mul_comm _ _
  rw [w64_lit (x := p - s) (by omega) (by omega), w64_lit (x := (p - s) * y) (by omega) (by omega), w64_lit (by omega) (by omega), Int.tmod_eq_emod_of_nonneg (by omega), e]
  rw [show x + (p * y - s * y) = (x - s * y) + p * y by omega, Int.add_mul_emod_self_left]
/-- row k becomes less s times row c -/
theorem inv_l62 {p : Int} (hp : pr p) {n m : Nat} {M : Nat → List Int} (hM : Mok p n m M) {I s22 : List Nat} {rows : List (List Int)} (hR : Rep n I rows M) (hnd : nod n I) {c k : Nat} (hc : c < n) (hk : k < n) (hkc : k ≠ c) (hcm : c < m) {x26 : Int} (hm : m ≤ 1000)
    (hI : ((s22.set ((c : Int)).toNat (gl 0 s22 (w64 ((c : Int) + x26)))).set (w64 ((c : Int) + x26)).toNat (gl 0 s22 (c : Int))) = I) :
    iter (fun s : Int × List (List Int) => impl_inverted_l62 p (c : Int) s22 x26 (k : Int) rows s.1 s.2) (0, rows) = some (.stop ((m : Int), rows.set (gl 0 I (k : Int)) (rop p (gl 0 (M k) (c : Int)) (M k) (M c)))) := by
  have l := pr_le hp
  have hid := hR.lt k hk
  have hidc := hR.lt c hc
  have hne : gl 0 I (c : Int) ≠ gl 0 I (k : Int) := fun h => hkc (hnd c k hc hk h).symm
  have hrk : rows.getD (gl 0 I (k : Int)) [] = M k := hR.at_ k hk
  have hrc : rows.getD (gl 0 I (c : Int)) [] = M c := hR.at_ c hc
  have hlk := hM.len k hk
  have hlc := hM.len c hc
  have hs := hM.rng k hk c
  generalize hS : rop p (gl 0 (M k) (c : Int)) (M k) (M c) = S
  have hSl : S.length = m := by rw [← hS, rop_len]; exact hlk
  have h := iter_up (body := fun s : Int × List (List Int) => impl_inverted_l62 p (c : Int) s22 x26 (k : Int) rows s.1 s.2) (fun t => ((t : Int), rows.set (gl 0 I (k : Int)) (S.take t ++ (M k).drop t))) m (s' := ((m : Int), rows.set (gl 0 I (k : Int)) S)) (fun t ht => by
    show impl_inverted_l62 p (c : Int) s22 x26 (k : Int) rows (t : Int) (rows.set (gl 0 I (k : Int)) (S.take t ++ (M k).drop t)) = _
    unfold impl_inverted_l62
    simp only [hI]
    have hrow : (rows.set (gl 0 I (k : Int)) (S.take t ++ (M k).drop t)).getD (gl 0 I (k : Int)) [] = S.take t ++ (M k).drop t := by rw [getD_set hid, if_pos rfl]
    have hrowc : (rows.set (gl 0 I (k : Int)) (S.take t ++ (M k).drop t)).getD (gl 0 I (c : Int)) [] = M c := by rw [getD_set hid, if_neg hne, hrc]
    have hml : (S.take t ++ (M k).drop t).length = m := by simp; omega
    have xr := hM.rng k hk t
    have yr := hM.rng c hc t
    rw [hrk, hrow, hrowc, hml, hlk, hlc, dtt (show (t : Int) < (m : Int) by omega), if_pos rfl, if_pos ⟨by omega, by omega⟩, if_pos ⟨by omega, by omega⟩, if_pos (show p ≠ 0 by omega), w64s (by omega), mix_get (by omega) (by omega), addfix hp xr.1 xr.2 hs.1 hs.2 yr.1 yr.2, List.set_set, Int.toNat_natCast, mix_set (by omega) (by omega) (by rw [← hS]; exact rop_get (by omega))]) (by
    show impl_inverted_l62 p (c : Int) s22 x26 (k : Int) rows (m : Int) (rows.set (gl 0 I (k : Int)) (S.take m ++ (M k).drop m)) = _
    unfold impl_inverted_l62
    simp only [hI]
    rw [hrk, hlk, dff (by omega), if_neg (by decide), List.take_of_length_le (by omega), List.drop_of_length_le (by omega), List.append_nil])
  have h0 : rows.set (gl 0 I (k : Int)) (S.take 0 ++ (M k).drop 0) = rows := by
    rw [List.take_zero, List.nil_append, List.drop_zero, ← hrk]
    exact set_self hid
  rw [h0] at h
  exact h
theorem Rep.set_row {n : Nat} {I : List Nat} {rows : List (List Int)} {M : Nat → List Int} (hR : Rep n I rows M) (hnd : nod n I) {k : Nat} (hk : k < n) (S : List Int) : Rep n I (rows.set (gl 0 I (k : Int)) S) (updM M k S) := by
  refine ⟨hR.len, fun t ht => by rw [List.length_set]; exact hR.lt t ht, fun t ht => ?_⟩
  rw [getD_set (hR.lt k hk)]
  unfold updM
  by_cases htk : t = k
  · subst htk; rw [if_pos rfl, if_pos rfl]
  · rw [if_neg (fun h => htk (hnd t k ht hk h)), if_neg htk, hR.at_ t ht]
theorem inv_l52 {p : Int} (hp : pr p) {n m : Nat} {M : Nat → List Int} (hM : Mok p n m M) {I s22 : List Nat} (hnd : nod n I) {c : Nat} (hc : c < n) (hn : n ≤ 1000) (hcm : c < m) {x26 : Int} (hm : m ≤ 1000)
    (hI : ((s22.set ((c : Int)).toNat (gl 0 s22 (w64 ((c : Int) + x26)))).set (w64 ((c : Int) + x26)).toNat (gl 0 s22 (c : Int))) = I) : ∀ (d k : Nat) (rows : List (List Int)), k + d = n → Rep n I rows (elX p M k c) →
    ∃ rows', iter (fun s : Int × List (List Int) => impl_inverted_l52 p (c : Int) s22 x26 s.1 s.2) ((k : Int), rows) = some (.stop ((n : Int), rows')) ∧ Rep n I rows' (elX p M n c)
  | 0, k, rows, hk, hR => by
    have : k = n := by omega
    subst this
    refine ⟨rows, iter_stop ?_, hR⟩
    show impl_inverted_l52 p (c : Int) s22 x26 (k : Int) rows = _
    unfold impl_inverted_l52
    simp only [hI]
    rw [hR.len, dff (by omega), if_neg (by decide)]
  | d + 1, k, rows, hk, hR => by
    have hkn : k < n := by omega
    by_cases hkc : k = c
    · have hR' : Rep n I rows (elX p M (k + 1) c) := by
        have : elX p M (k + 1) c = elX p M k c := by
          funext t
          unfold elX
          by_cases h : t ≠ c ∧ t < k
          · rw [if_pos h, if_pos ⟨h.1, by omega⟩]
          · rw [if_neg h, if_neg (by omega)]
        rw [this]; exact hR
      obtain ⟨rows', e1, e2⟩ := inv_l52 hp hM hnd hc hn hcm hm hI d (k + 1) rows (by omega) hR'
      refine ⟨rows', ?_, e2⟩
      rw [iter_next (s' := (((k + 1 : Nat) : Int), rows)) ?_]
      · exact e1
      · show impl_inverted_l52 p (c : Int) s22 x26 (k : Int) rows = _
        unfold impl_inverted_l52
        simp only [hI]
        rw [hR.len, dtt (show (k : Int) < (n : Int) by omega), if_pos rfl, dtt (show (k : Int) = (c : Int) by omega), if_pos rfl, w64s (by omega)]
    · have hMe : Mok p n m (elX p M k c) := by
        constructor
        · intro t ht
          unfold elX
          split
          · rw [rop_len]; exact hM.len t ht
          · exact hM.len t ht
        · intro t ht u
          unfold elX
          split
          · exact rop_rng hp _ _ u
          · exact hM.rng t ht u
      have e1k : elX p M k c k = M k := by unfold elX; rw [if_neg (by omega)]
      have e1c : elX p M k c c = M c := by unfold elX; rw [if_neg (by omega)]
      have h62 := inv_l62 hp hMe hR hnd hc hkn hkc hcm (x26 := x26) hm hI
      rw [e1k, e1c] at h62
      have hR' : Rep n I (rows.set (gl 0 I (k : Int)) (rop p (gl 0 (M k) (c : Int)) (M k) (M c))) (elX p M (k + 1) c) := by
        have := hR.set_row hnd hkn (rop p (gl 0 (M k) (c : Int)) (M k) (M c))
        have e : updM (elX p M k c) k (rop p (gl 0 (M k) (c : Int)) (M k) (M c)) = elX p M (k + 1) c := by
          funext t
          unfold updM elX
          by_cases htk : t = k
          · subst htk; rw [if_pos rfl, if_pos ⟨hkc, by omega⟩]
          · rw [if_neg htk]
            by_cases h : t ≠ c ∧ t < k
            · rw [if_pos h, if_pos ⟨h.1, by omega⟩]
            · rw [if_neg h, if_neg (by omega)]
        rw [e] at this
        exact this
      obtain ⟨rows', e1, e2⟩ := inv_l52 hp hM hnd hc hn hcm hm hI d (k + 1) _ (by omega) hR'
      refine ⟨rows', ?_, e2⟩
      rw [iter_next (s' := (((k + 1 : Nat) : Int), rows.set (gl 0 I (k : Int)) (rop p (gl 0 (M k) (c : Int)) (M k) (M c)))) ?_]
      · exact e1
      · show impl_inverted_l52 p (c : Int) s22 x26 (k : Int) rows = _
        unfold impl_inverted_l52
        simp only [hI]
        have hrk := hR.at_ k hkn
        rw [e1k] at hrk
        rw [hR.len, dtt (show (k : Int) < (n : Int) by omega), if_pos rfl, dff (show ¬ (k : Int) = (c : Int) by omega)]
        simp only [Bool.false_eq_true, if_false]
        rw [if_pos ⟨by omega, by omega⟩, hrk, hM.len k hkn, if_pos ⟨by omega, by omega⟩, h62]
        simp only [Option.bind_some]
        rw [w64s (by omega)]
theorem inv_l20 {p : Int} (hp : pr p) {n m : Nat} (hn : n ≤ 1000) (hm : m ≤ 1000) (hnm : n ≤ m) {L : List (List Int)} (hL : L.length = n) : ∀ (d c : Nat) (I : List Nat) (rows : List (List Int)) (M M' : Nat → List Int), c + d = n → Rep n I rows M → Mok p n m M → nod n I → gj p n d c M = some M' →
    ∃ I' rows', iter (fun s : Int × List Nat × List (List Int) => impl_inverted_l20 p L s.1 s.2.1 s.2.2) ((c : Int), I, rows) = some (.stop ((n : Int), I', rows')) ∧ Rep n I' rows' M' ∧ Mok p n m M'
  | 0, c, I, rows, M, M', hc, hR, hM, hnd, hg => by
    have : c = n := by omega
    subst this
    injection hg with hg
    subst hg
    refine ⟨I, rows, iter_stop ?_, hR, hM⟩
    show impl_inverted_l20 p L (c : Int) I rows = _
    unfold impl_inverted_l20
    rw [hL, dff (by omega), if_neg (by decide)]
  | d + 1, c, I, rows, M, M', hc, hR, hM, hnd, hg => by
    have hcn : c < n := by omega
    have hcm : c < m := by omega
    have hx := index_fb2 (n := n) (m := m) (c := c) (M := M) hcm hM.len (n - c) c c (((gi I rows).take n).drop c) (by omega) (by omega) (by simp [gi_len, hR.len]) hn (fun t ht => by
      rw [gl_cut (by rw [gi_len]; exact hR.len) (by omega), gl_gi (by rw [hR.len]; omega), hR.at_ _ (by omega)])
    rw [Nat.sub_self] at hx
    have hidx : slices_IndexFunc_108_f109 (((gi I rows).take n).drop c) (c : Int) = some (match fb M c c (n - c) with | none => -1 | some b => ((b - c : Nat) : Int)) := hx
    unfold gj at hg
    cases hfb : fb M c c (n - c) with
    | none => rw [hfb] at hg; cases hg
    | some b =>
      rw [hfb] at hg hidx
      obtain ⟨b0, b1, b2⟩ := fb_some hfb
      have hb : b < n := by omega
      have hR2 := swI_rep hR hcn hb
      have hM2 := hM.sw hcn hb
      have hn2 := swI_nod hR.len hcn hb hnd
      have hMc : swM M c b c = M b := by unfold swM; rw [if_pos rfl]
      have hv := hM.rng b hb c
      have hpos : 0 < gl 0 (M b) (c : Int) := by omega
      have hinv := inv_range hp hpos hv.2
      have hbi : w64 ((c : Int) + ((b - c : Nat) : Int)) = (b : Int) := by rw [w64_id (by omega) (by omega)]; omega
      have hsw0 : ((I.set ((c : Int)).toNat (gl 0 I (w64 ((c : Int) + ((b - c : Nat) : Int))))).set (w64 ((c : Int) + ((b - c : Nat) : Int))).toNat (gl 0 I (c : Int))) = swI I c b := by rw [hbi]; rfl
      have h42 := inv_l42 hp hM2 hR2 hcn (s22 := I) (x26 := ((b - c : Nat) : Int)) (y := inv p (gl 0 (M b) (c : Int))) (by omega) hinv.2.1 hm hsw0
      have hM3 := hM2.upd hp hcn (inv p (gl 0 (M b) (c : Int)))
      have hR3 := hR2.set_row hn2 hcn (scl p (inv p (gl 0 (M b) (c : Int))) (swM M c b c))
      have e0 : ∀ N : Nat → List Int, elX p N 0 c = N := fun N => by funext t; unfold elX; rw [if_neg (by omega)]
      obtain ⟨rows2, e1, e2⟩ := inv_l52 hp hM3 hn2 hcn hn hcm (x26 := ((b - c : Nat) : Int)) hm hsw0 n 0 _ (by omega) (by rw [e0]; exact hR3)
      have hgj : gjM p (swM M c b) n c = elX p (updM (swM M c b) c (scl p (inv p (gl 0 (M b) (c : Int))) (swM M c b c))) n c := by unfold gjM; rw [hMc]
      rw [← hgj] at e2
      obtain ⟨I', rows', g1, g2, g3⟩ := inv_l20 hp hn hm hnm hL d (c + 1) (swI I c b) rows2 _ M' (by omega) e2 (by rw [hgj]; exact hM3.elX hp c) hn2 hg
      refine ⟨I', rows', ?_, g2, g3⟩
      rw [iter_next (s' := (((c + 1 : Nat) : Int), swI I c b, rows2)), g1]
      show impl_inverted_l20 p L (c : Int) I rows = _
      have hsw : ((I.set c (gl 0 I (b : Int))).set ((b : Int)).toNat (gl 0 I (c : Int))) = swI I c b := rfl
      have hri : rows.getD (gl 0 (swI I c b) (c : Int)) [] = M b := by rw [hR2.at_ c hcn, hMc]
      unfold impl_inverted_l20
      rw [hL, dtt (by omega), if_pos rfl, gi_len, hR.len, if_pos ⟨by omega, by omega⟩, Int.toNat_natCast n, Int.toNat_natCast c, hidx]
      simp only [Option.bind_some, hbi, hsw]
      rw [if_pos ⟨by omega, by omega⟩, if_pos ⟨by omega, by omega⟩, if_pos (by rw [List.length_set, hR.len]; exact ⟨by omega, by omega⟩), hR2.len, if_pos ⟨by omega, by omega⟩, hri, hM.len b hb, if_pos ⟨by omega, by omega⟩, inverse_i hp hpos hv.2]
      simp only [Option.bind_some]
      rw [h42]
      simp only [Option.bind_some]
      rw [show ((0 : Nat) : Int) = 0 from rfl] at e1
      rw [e1]
      simp only [Option.bind_some]
      rw [w64s (by omega)]
end Go.Proofs.YtB
