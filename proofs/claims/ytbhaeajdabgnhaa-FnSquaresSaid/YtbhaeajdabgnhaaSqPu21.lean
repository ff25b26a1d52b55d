/- Plain laws: the rank of a matrix in both forms. -/
import Derived.Test.YtbhaeajdabgnhaaSqPu20
import Derived.Test.YtbhaeajdabgnhaaSqG1
set_option linter.unusedVariables false
set_option linter.unusedSimpArgs false
namespace Go.Proofs.YtB
open Go Go.RowKit Go.Proofs
theorem rk_full (p : Int) (n : Nat) : ∀ (d c : Nat) (M : Nat → List Int), rk p n d c n M = n
  | 0, c, M => rfl
  | d + 1, c, M => by
    unfold rk
    rw [Nat.sub_self]
    exact rk_full p n d (c + 1) M
theorem gl_gi {I : List Nat} {rows : List (List Int)} {t : Nat} (h : t < I.length) : gl [] (gi I rows) (t : Int) = rows.getD (gl 0 I (t : Int)) [] := by
  rw [gl_nat (by rw [gi_len]; exact h), gl_nat h]
  simp [gi]
theorem gl_cut {L : List (List Int)} {n i t : Nat} (hL : L.length = n) (h : i + t < n) : gl [] ((L.take n).drop i) (t : Int) = gl [] L ((i + t : Nat) : Int) := by
  unfold gl
  rw [Int.toNat_natCast, Int.toNat_natCast, List.getD_eq_getElem?_getD, List.getD_eq_getElem?_getD, List.getElem?_drop, List.take_of_length_le (by omega)]
def nod (n : Nat) (I : List Nat) : Prop := ∀ a b, a < n → b < n → gl 0 I (a : Int) = gl 0 I (b : Int) → a = b
def swI (I : List Nat) (i b : Nat) : List Nat := (I.set i (gl 0 I (b : Int))).set b (gl 0 I (i : Int))
theorem swI_get {I : List Nat} {n i b : Nat} (hl : I.length = n) (hi : i < n) (hb : b < n) (t : Nat) : gl 0 (swI I i b) (t : Int) = if t = b then gl 0 I (i : Int) else if t = i then gl 0 I (b : Int) else gl 0 I (t : Int) := by
  unfold swI
  rw [gl_set_nat (by rw [List.length_set]; omega), gl_set_nat (by omega)]
theorem swI_nod {I : List Nat} {n i b : Nat} (hl : I.length = n) (hi : i < n) (hb : b < n) (h : nod n I) : nod n (swI I i b) := by
  have e : ∀ t : Nat, gl 0 (swI I i b) (t : Int) = gl 0 I (((if t = b then i else (if t = i then b else t)) : Nat) : Int) := fun t : Nat => by
    rw [swI_get hl hi hb]
    split
    · rfl
    · split <;> rfl
  intro x y hx hy hxy
  rw [e, e] at hxy
  have := h _ _ (by split; omega; split <;> omega) (by split; omega; split <;> omega) hxy
  repeat' split at this
  all_goals omega
theorem swI_rep {I : List Nat} {rows : List (List Int)} {n i b : Nat} {M : Nat → List Int} (hR : Rep n I rows M) (hi : i < n) (hb : b < n) : Rep n (swI I i b) rows (swM M i b) := by
  refine ⟨by simp [swI, hR.len], fun k hk => ?_, fun k hk => ?_⟩
  · rw [swI_get hR.len hi hb]
    split
    · exact hR.lt i hi
    · split
      · exact hR.lt b hb
      · exact hR.lt k hk
  · rw [swI_get hR.len hi hb]
    unfold swM
    by_cases h1 : k = b
    · subst h1
      rw [if_pos rfl, hR.at_ i hi]
      by_cases h2 : k = i
      · rw [if_pos h2, h2]
      · rw [if_neg h2, if_pos rfl]
    · rw [if_neg h1]
      by_cases h2 : k = i
      · rw [if_pos h2, if_pos h2, hR.at_ b hb]
      · rw [if_neg h2, if_neg h2, if_neg h1, hR.at_ k hk]
/-- the program's elimination -/
theorem rank_l17 {p : Int} (hp : pr p) {n m : Nat} (hn : n ≤ 1000) (hm : m ≤ 1000) : ∀ (d c i : Nat) (I : List Nat) (rows : List (List Int)) (M : Nat → List Int), c + d = m → i ≤ n → Rep n I rows M → Mok p n m M → nod n I →
    ∃ I' rows' c', iter (fun s : Int × List Nat × List (List Int) × Int => impl_rank_l17 p s.1 s.2.1 s.2.2.1 s.2.2.2) ((i : Int), I, rows, (c : Int)) = some (.stop ((rk p n d c i M : Int), I', rows', c'))
  | d, c, i, I, rows, M, hc, hi, hR, hM, hnd => by
    by_cases hin : i = n
    · subst hin
      refine ⟨I, rows, c, ?_⟩
      rw [rk_full]
      apply iter_stop
      show impl_rank_l17 p (i : Int) I rows (c : Int) = _
      unfold impl_rank_l17
      rw [hR.len, dff (by omega)]
      rfl
    have h0 := hR.at_ 0 (by omega)
    have e0 : gl 0 I (0 : Int) = gl 0 I ((0 : Nat) : Int) := rfl
    cases d with
    | zero =>
      refine ⟨I, rows, c, ?_⟩
      apply iter_stop
      show impl_rank_l17 p (i : Int) I rows (c : Int) = _
      unfold impl_rank_l17
      rw [hR.len, dtt (by omega), if_pos rfl, if_pos ⟨by omega, by omega⟩, e0, h0, hM.len 0 (by omega), dff (by omega)]
      rfl
    | succ d =>
      have hcm : c < m := by omega
      have hx := index_fb (n := n) (m := m) (c := c) (M := M) hcm hM.len (n - i) i i (((gi I rows).take n).drop i) (by omega) (by omega) (by simp [gi_len, hR.len]) hn (fun t ht => by
        rw [gl_cut (by rw [gi_len]; exact hR.len) (by omega), gl_gi (by rw [hR.len]; omega), hR.at_ _ (by omega)])
      rw [Nat.sub_self] at hx
      have hidx : slices_IndexFunc_108_f149 (((gi I rows).take n).drop i) (c : Int) = some (match fb M c i (n - i) with | none => -1 | some b => ((b - i : Nat) : Int)) := hx
      cases hfb : fb M c i (n - i) with
      | none =>
        obtain ⟨I', rows', c', h⟩ := rank_l17 hp hn hm d (c + 1) i I rows M (by omega) hi hR hM hnd
        refine ⟨I', rows', c', ?_⟩
        rw [iter_next (s' := ((i : Int), I, rows, ((c + 1 : Nat) : Int))), h]
        · rw [rk, hfb]
        · show impl_rank_l17 p (i : Int) I rows (c : Int) = _
          unfold impl_rank_l17
          rw [hR.len, dtt (by omega), if_pos rfl, if_pos ⟨by omega, by omega⟩, e0, h0, hM.len 0 (by omega), dtt (by omega)]
          simp only [Option.bind_some, if_true]
          rw [gi_len, hR.len, if_pos ⟨by omega, by omega⟩, Int.toNat_natCast, Int.toNat_natCast, hidx, hfb]
          simp only [Option.bind_some]
          rw [dtt (by omega), if_pos rfl, w64s (by omega)]
      | some b =>
        obtain ⟨b0, b1, b2⟩ := fb_some hfb
        have hb : b < n := by omega
        have hiN : i < n := by omega
        have hR2 := swI_rep hR hiN hb
        have hM2 := hM.sw hiN hb
        have hn2 := swI_nod hR.len hiN hb hnd
        have hMi : swM M i b i = M b := by unfold swM; rw [if_pos rfl]
        have hv := hM.rng b hb c
        have hpos : 0 < gl 0 (M b) (c : Int) := by omega
        have hinv := inv_range hp hpos hv.2
        have hbi : w64 ((i : Int) + ((b - i : Nat) : Int)) = (b : Int) := by rw [w64_id (by omega) (by omega)]; omega
        obtain ⟨rows2, e1, e2⟩ := rank_l46 hp hM2 hn2 (s19 := I) hiN hn hcm (x30 := ((b - i : Nat) : Int)) hm (by rw [hMi]; exact ⟨hinv.1, hinv.2.1⟩) (by rw [hbi]; rfl) (n - (i + 1)) (i + 1) rows (by omega) (by omega) (by
          have : (fun t => if i < t ∧ t < i + 1 then rop p ((gl 0 (swM M i b t) (c : Int) * inv p (gl 0 (swM M i b i) (c : Int))) % p) (swM M i b t) (swM M i b i) else swM M i b t) = swM M i b := by
            funext t
            rw [if_neg (by omega)]
          rw [this]
          exact hR2)
        rw [hMi] at e1
        obtain ⟨I', rows', c', h⟩ := rank_l17 hp hn hm d (c + 1) (i + 1) (swI I i b) rows2 _ (by omega) (by omega) e2 (hM2.el hp i c) hn2
        refine ⟨I', rows', c', ?_⟩
        rw [iter_next (s' := (((i + 1 : Nat) : Int), swI I i b, rows2, ((c + 1 : Nat) : Int))), h]
        · rw [rk, hfb]
        · show impl_rank_l17 p (i : Int) I rows (c : Int) = _
          have hsw : ((I.set i (gl 0 I (b : Int))).set ((b : Int)).toNat (gl 0 I (i : Int))) = swI I i b := rfl
          have hri : rows.getD (gl 0 (swI I i b) (i : Int)) [] = M b := by rw [hR2.at_ i hiN, hMi]
          unfold impl_rank_l17
          rw [hR.len, dtt (by omega), if_pos rfl, if_pos ⟨by omega, by omega⟩, e0, h0, hM.len 0 (by omega), dtt (by omega)]
          simp only [Option.bind_some, if_true]
          rw [gi_len, hR.len, if_pos ⟨by omega, by omega⟩, Int.toNat_natCast n, Int.toNat_natCast i, hidx, hfb]
          simp only [Option.bind_some]
          rw [dff (by omega)]
          simp only [Bool.false_eq_true, if_false, hbi, hsw]
          rw [if_pos ⟨by omega, by omega⟩, if_pos ⟨by omega, by omega⟩, if_pos (by rw [List.length_set, hR.len]; exact ⟨by omega, by omega⟩), hR2.len, if_pos ⟨by omega, by omega⟩, hri, hM.len b hb, if_pos ⟨by omega, by omega⟩, inverse_i hp hpos hv.2]
          simp only [Option.bind_some]
          rw [w64s (by omega), e1]
          simp only [Option.bind_some]
          rw [w64s (by omega)]
end Go.Proofs.YtB
