/- Plain laws: the draw of a prime and a list that is mostly a square. -/
import Derived.Test.YtbhaeajdabgnhaaSqPu52
import Derived.Test.YtbhaeajdabgnhaaSqG2
set_option linter.unusedVariables false
set_option linter.unusedSimpArgs false
namespace Go.Proofs.YtB
open Go Go.RowKit Go.Proofs
theorem next_r {c : List UInt8} (hc : c.length ≤ 4096) {s : Int × Int} (h0 : 0 ≤ s.1) (n : Int) (hn : n ≤ 1000000000) : ∃ r, spec_l01Next c s n = some r ∧ 0 ≤ r.2.1 ∧ (1 ≤ n → 0 ≤ r.1 ∧ r.1 < n) := by
  obtain ⟨x, s', e, h⟩ := next_some hc h0 n hn
  exact ⟨_, e, h⟩
theorem pick_r {c : List UInt8} (hc : c.length ≤ 4096) {s : Int × Int} (h0 : 0 ≤ s.1) (l : List Int) (h1 : 1 ≤ l.length) (h2 : l.length ≤ 1000) : ∃ r, spec_l01Pick c s l = some r ∧ 0 ≤ r.2.1 ∧ r.1 ∈ l := by
  obtain ⟨x, s', e, h⟩ := pick_some hc h0 l h1 h2
  exact ⟨_, e, h⟩
theorem draw_r {c : List UInt8} (hc : c.length ≤ 4096) {p : Int} (hp : pr p) {n : Nat} (h1 : 1 ≤ n) (hn : n ≤ 3) {s : Int × Int} (h0 : 0 ≤ s.1) : ∃ r, spec_l04Draw c s p (n : Int) = some r ∧ 0 ≤ r.2.1 ∧ Sq p n r.1 := by
  obtain ⟨x, s', e, h⟩ := draw_some hc hp h1 hn h0
  exact ⟨_, e, h⟩
theorem getD_le {rows : List (List Int)} (h : ∀ x ∈ rows, x.length ≤ 3) (r : Nat) : (rows.getD r []).length ≤ 3 := by
  rcases Nat.lt_or_ge r rows.length with hr | hr
  · rw [List.getD_eq_getElem?_getD, List.getElem?_eq_getElem hr]; exact h _ (List.getElem_mem hr)
  · rw [List.getD_eq_getElem?_getD, List.getElem?_eq_none hr]; simp
theorem gi_le {idx : List Nat} {rows : List (List Int)} (h : ∀ x ∈ rows, x.length ≤ 3) : ∀ x ∈ gi idx rows, x.length ≤ 3 := by
  intro x hx
  unfold gi at hx
  obtain ⟨r, _, rfl⟩ := List.mem_map.1 hx
  exact getD_le h r
theorem set_le {rows : List (List Int)} (h : ∀ x ∈ rows, x.length ≤ 3) {r : Nat} {y : List Int} (hy : y.length ≤ 3) : ∀ x ∈ rows.set r y, x.length ≤ 3 := by
  intro x hx
  rcases List.mem_or_eq_of_mem_set hx with h1 | h1
  · exact h x h1
  · rw [h1]; exact hy
def Sm (r : Int × List (List Int)) : Prop := r.2.length ≤ 3 ∧ ∀ x ∈ r.2, x.length ≤ 3
theorem of_some {c : List UInt8} (hc : c.length ≤ 4096) : ∃ r, spec_l04Of c = some r ∧ Sm r := by
  obtain ⟨s, e1, s0⟩ := from_some hc
  obtain ⟨x5, e5, h5, m5⟩ := pick_r hc (s := s) (by omega) [2, 3, 5] (by decide) (by decide)
  obtain ⟨x8, e8, h8, m8⟩ := next_r hc h5 3 (by decide)
  have m8 := m8 (by decide)
  have hp : pr x5.1 := by simp at m5; exact m5
  obtain ⟨k, hk⟩ := Int.eq_ofNat_of_zero_le m8.1
  have en : w64 (1 + x8.1) = ((k + 1 : Nat) : Int) := by rw [w64_id (by omega) (by omega)]; omega
  obtain ⟨x11, e11, h11, hS⟩ := draw_r hc hp (show 1 ≤ k + 1 by omega) (show k + 1 ≤ 3 by omega) h8
  obtain ⟨x15, e15, h15, -⟩ := next_r hc h11 3 (by decide)
  have hL := hS.len
  have hle : ∀ x ∈ x11.1, x.length ≤ 3 := fun x hx => by have := (hS.row x hx).1; omega
  unfold spec_l04Of
  rw [e1]; simp only [Option.bind_some]
  rw [e5]; simp only [Option.bind_some]
  rw [e8]; simp only [Option.bind_some]
  rw [en, e11]; simp only [Option.bind_some]
  rw [e15]; simp only [Option.bind_some]
  rw [hL]
  by_cases hb : x15.1 = 0
  · rw [dtt hb, if_pos rfl, if_pos (by simp; omega)]
    have el : w64 (((List.range (k + 1)).length : Int) - 1) = ((k : Nat) : Int) := by rw [List.length_range, w64_id (by omega) (by omega)]; omega
    rw [el, if_pos (by rw [List.length_range]; omega), gl_range (by omega)]
    have hx := getD_le hle k
    rw [own_ints _ (by omega)]
    simp only [Option.bind_some]
    rw [if_pos (by rw [List.length_range]; omega)]
    obtain ⟨x31, e31, h31, -⟩ := next_r hc h15 24 (by decide)
    rw [e31]; simp only [Option.bind_some]
    have hle2 : ∀ x ∈ x11.1 ++ [x11.1.getD k []], x.length ≤ 3 := fun x hx2 => by
      rcases List.mem_append.1 hx2 with h | h
      · exact hle x h
      · rw [List.mem_singleton.1 h]; exact hx
    have glen : ∀ rows : List (List Int), (gi ((List.range (k + 1)).set (0 : Int).toNat (k + 1)) rows).length = k + 1 := fun rows => by rw [gi_len, List.length_set, List.length_range]
    by_cases hb0 : x31.1 = 0
    · rw [dtt hb0, if_pos rfl]
      obtain ⟨x35, e35, -, -⟩ := pick_r hc h31 [0, 4, 7] (by decide) (by decide)
      rw [e35]
      exact ⟨_, rfl, by rw [glen]; omega, gi_le hle2⟩
    · rw [dff hb0, if_neg (by decide)]
      by_cases hb1 : x31.1 = 1
      · rw [dtt hb1, if_pos rfl, if_pos (by rw [glen]; omega)]
        refine ⟨_, rfl, ?_, fun x hx => gi_le hle2 x (List.mem_of_mem_take (List.mem_of_mem_drop hx))⟩
        simp only [List.length_drop, List.length_take, glen]
        omega
      · rw [dff hb1, if_neg (by decide)]
        by_cases hb2 : x31.1 = 2
        · rw [dtt hb2, if_pos rfl, if_pos (by rw [List.length_set, List.length_range]; omega)]
          have g0 : gl 0 ((List.range (k + 1)).set (0 : Int).toNat (k + 1)) (0 : Int) = k + 1 := by
            have := gl_set_nat (l := List.range (k + 1)) (k := 0) (j := 0) (x := k + 1) (by rw [List.length_range]; omega)
            rw [if_pos rfl] at this
            exact this
          have g1 : (x11.1 ++ [x11.1.getD k []]).getD (k + 1) [] = x11.1.getD k [] := by
            have := getD_new (rows := x11.1) (S := x11.1.getD k [])
            rwa [hL] at this
          have g2 : (x11.1.getD k []).length = k + 1 := by
            rw [getD_at (by omega)]
            exact (hS.row _ (List.getElem_mem _)).1
          rw [g0, g1, if_pos (by rw [g2]; omega)]
          refine ⟨_, rfl, by rw [glen]; omega, gi_le (set_le hle2 ?_)⟩
          rw [List.length_set]; exact hx
        · rw [dff hb2, if_neg (by decide)]
          exact ⟨_, rfl, by rw [glen]; omega, gi_le hle2⟩
  · rw [dff hb, if_neg (by decide)]
    obtain ⟨x45, e45, h45, -⟩ := next_r hc h15 24 (by decide)
    rw [e45]; simp only [Option.bind_some]
    have glen : ∀ rows : List (List Int), (gi (List.range (k + 1)) rows).length = k + 1 := fun rows => by rw [gi_len, List.length_range]
    by_cases hb0 : x45.1 = 0
    · rw [dtt hb0, if_pos rfl]
      obtain ⟨x49, e49, -, -⟩ := pick_r hc h45 [0, 4, 7] (by decide) (by decide)
      rw [e49]
      exact ⟨_, rfl, by rw [glen]; omega, gi_le hle⟩
    · rw [dff hb0, if_neg (by decide)]
      by_cases hb1 : x45.1 = 1
      · rw [dtt hb1, if_pos rfl, if_pos (by rw [glen]; omega)]
        refine ⟨_, rfl, ?_, fun x hx => gi_le hle x (List.mem_of_mem_take (List.mem_of_mem_drop hx))⟩
        simp only [List.length_drop, List.length_take, glen]
        omega
      · rw [dff hb1, if_neg (by decide)]
        by_cases hb2 : x45.1 = 2
        · rw [dtt hb2, if_pos rfl, if_pos (by rw [List.length_range]; omega)]
          have g0 : gl 0 (List.range (k + 1)) (0 : Int) = 0 := gl_range (t := 0) (by omega)
          have g2 : (x11.1.getD 0 []).length = k + 1 := by
            rw [getD_at (by omega)]
            exact (hS.row _ (List.getElem_mem _)).1
          rw [g0, if_pos (by rw [g2]; omega)]
          refine ⟨_, rfl, by rw [glen]; omega, gi_le (set_le hle ?_)⟩
          rw [List.length_set]; exact getD_le hle 0
        · rw [dff hb2, if_neg (by decide)]
          exact ⟨_, rfl, by rw [glen]; omega, gi_le hle⟩
theorem draw_inverse {c : List UInt8} (hc : c.length ≤ 4096) : ∃ r, spec_DrawInverseSquare c = some r ∧ Sm r := by
  obtain ⟨r, e, h⟩ := of_some hc
  unfold spec_DrawInverseSquare
  rw [e]
  exact ⟨r, rfl, h⟩
theorem draw_count {c : List UInt8} (hc : c.length ≤ 4096) : ∃ r, spec_DrawCountInvertible c = some r ∧ 0 ≤ r.2 ∧ r.2 < 5 := by
  obtain ⟨s, e1, s0⟩ := from_some hc
  obtain ⟨x5, e5, h5, m5⟩ := pick_r hc (s := s) (by omega) [2, 3, 5, 4] (by decide) (by decide)
  obtain ⟨x8, e8, h8, m8⟩ := next_r hc h5 5 (by decide)
  unfold spec_DrawCountInvertible
  rw [e1]; simp only [Option.bind_some]
  rw [e5]; simp only [Option.bind_some]
  rw [e8]
  exact ⟨_, rfl, m8 (by decide)⟩
end Go.Proofs.YtB
