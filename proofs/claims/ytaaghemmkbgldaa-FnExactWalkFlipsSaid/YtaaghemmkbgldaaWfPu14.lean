/- Plain laws: walks by flips, in both forms. -/
import Derived.Test.YtaaghemmkbgldaaWfPu13
import Derived.Test.YtaaghemmkbgldaaWfG3
import Derived.Test.YtaaghemmkbgldaaWfG2
set_option linter.unusedVariables false
set_option linter.unusedSimpArgs false
namespace Go.Proofs.YtB
open Go Go.RowKit Go.Proofs

theorem walk_num (l : List Int) (hl : l.length ≤ 200) : (iter (fun s => spec_WalkFlips_l5 l s) 0 = if (List.range l.length).all (fun j => if h : j < l.length then decide (0 ≤ l[j]) else true) then some (.stop (l.length : Int)) else some (.ret (⟨0, 0, 0, 0, []⟩, 2))) ∧
    (iter (fun s => impl_WalkFlips_l5 l s) 0 = if (List.range l.length).all (fun j => if h : j < l.length then decide (0 ≤ l[j]) else true) then some (.stop (l.length : Int)) else some (.ret (⟨0, 0, 0, 0, []⟩, 2))) := by
  constructor
  · refine iter_all (body := fun s => spec_WalkFlips_l5 l s) (fun j => (j : Int)) l.length _ _ (fun j hj => ?_) ?_
    · show spec_WalkFlips_l5 l (j : Int) = _
      unfold spec_WalkFlips_l5
      simp only [dtt (show (j : Int) < l.length by omega), if_true, if_pos (show 0 ≤ (j : Int) ∧ (j : Int) < l.length by omega), gl_nat hj, dif_pos hj]
      rw [w64s (by omega)]
      by_cases h : l[j] < 0
      · rw [dtt h, dff (show ¬ 0 ≤ l[j] by omega)]; rfl
      · rw [dff h, dtt (show 0 ≤ l[j] by omega)]; rfl
    · show spec_WalkFlips_l5 l (l.length : Int) = _
      unfold spec_WalkFlips_l5
      rw [dff (by omega), if_neg (by decide)]
  · refine iter_all (body := fun s => impl_WalkFlips_l5 l s) (fun j => (j : Int)) l.length _ _ (fun j hj => ?_) ?_
    · show impl_WalkFlips_l5 l (j : Int) = _
      unfold impl_WalkFlips_l5
      simp only [dtt (show (j : Int) < l.length by omega), if_true, if_pos (show 0 ≤ (j : Int) ∧ (j : Int) < l.length by omega), gl_nat hj, dif_pos hj]
      rw [w64s (by omega)]
      by_cases h : l[j] < 0
      · rw [dtt h, dff (show ¬ 0 ≤ l[j] by omega)]; rfl
      · rw [dff h, dtt (show 0 ≤ l[j] by omega)]; rfl
    · show impl_WalkFlips_l5 l (l.length : Int) = _
      unfold impl_WalkFlips_l5
      rw [dff (by omega), if_neg (by decide)]
/-- the walks' two loops, from place j on -/
theorem walk_loop (l : List Int) (hl : l.length ≤ 200) (h0 : ∀ j, (hj : j < l.length) → 0 ≤ l[j]) {p n m k : Int} (hp : 0 < p ∧ p ≤ 5) : ∀ (d j : Nat) (L : List Prod), j + d = l.length → L.length ≤ 30 →
    ∃ (L' : List Prod) (s : Int), iter (fun s : Int × (List Prod) × Int × Int × Int × Int => spec_WalkFlips_l15 l s.1 s.2.1 s.2.2.1 s.2.2.2.1 s.2.2.2.2.1 s.2.2.2.2.2) ((j : Int), L, p, n, m, k) = some (.stop (s, L', p, n, m, k)) ∧
      iter (fun s : Int × Int × Int × Int × Int × (List Prod) => impl_WalkFlips_l18 l s.1 s.2.1 s.2.2.1 s.2.2.2.1 s.2.2.2.2.1 s.2.2.2.2.2) ((j : Int), p, n, m, k, L) = some (.stop ((l.length : Int), p, n, m, k, L')) ∧ L'.length ≤ 30
  | 0, j, L, hj, hL => by
    have : j = l.length := by omega
    subst this
    refine ⟨L, _, iter_stop (s' := ((l.length : Int), L, p, n, m, k)) ?_, iter_stop ?_, hL⟩
    · show spec_WalkFlips_l15 l (l.length : Int) L p n m k = _
      unfold spec_WalkFlips_l15
      rw [dff (by omega), if_neg (by decide)]
    · show impl_WalkFlips_l18 l (l.length : Int) p n m k L = _
      unfold impl_WalkFlips_l18
      rw [dff (by omega), if_neg (by decide)]
  | d + 1, j, L, hj, hL => by
    have hjl : j < l.length := by omega
    have fs := flips_s ⟨p, n, m, k, L⟩ (by show L.length ≤ 60; omega)
    have fi := flips_i ⟨p, n, m, k, L⟩ (by show L.length ≤ 60; omega)
    have hfl := flips_len L (by omega)
    by_cases he : (flipsL L).length = 0
    · -- none: the reference stops, the program goes on without a change
      have hi : ∀ (e t : Nat), t + e = l.length → iter (fun s : Int × Int × Int × Int × Int × (List Prod) => impl_WalkFlips_l18 l s.1 s.2.1 s.2.2.1 s.2.2.2.1 s.2.2.2.2.1 s.2.2.2.2.2) ((t : Int), p, n, m, k, L) = some (.stop ((l.length : Int), p, n, m, k, L)) := by
        intro e
        induction e with
        | zero =>
          intro t ht
          have : t = l.length := by omega
          subst this
          refine iter_stop ?_
          show impl_WalkFlips_l18 l (l.length : Int) p n m k L = _
          unfold impl_WalkFlips_l18
          rw [dff (by omega), if_neg (by decide)]
        | succ e ih =>
          intro t ht
          rw [iter_next (s' := (((t + 1 : Nat) : Int), p, n, m, k, L)) ?_]
          · exact ih (t + 1) (by omega)
          · show impl_WalkFlips_l18 l (t : Int) p n m k L = _
            unfold impl_WalkFlips_l18
            simp only [dtt (show (t : Int) < l.length by omega), if_true, if_pos (show 0 ≤ (t : Int) ∧ (t : Int) < l.length by omega), fi, Option.bind_some, dff (show ¬ (0 : Int) < ((flipsL L).length : Int) by omega), Bool.false_eq_true, if_false]
            rw [w64s (by omega)]
      refine ⟨L, (j : Int), iter_stop ?_, hi (d + 1) j hj, hL⟩
      show spec_WalkFlips_l15 l (j : Int) L p n m k = _
      unfold spec_WalkFlips_l15
      simp only [dtt (show (j : Int) < l.length by omega), if_true, fs, Option.bind_some, dtt (show ((flipsL L).length : Int) = 0 by omega)]
    · have hx0 := h0 j hjl
      have hm1 : 0 ≤ l[j].tmod ((flipsL L).length : Int) := Int.tmod_nonneg _ hx0
      have hm2 : l[j].tmod ((flipsL L).length : Int) < ((flipsL L).length : Int) := Int.tmod_lt_of_pos _ (by omega)
      have hmem : gl [] (flipsL L) (l[j].tmod ((flipsL L).length : Int)) ∈ flipsL L := by
        have hlt : (l[j].tmod ((flipsL L).length : Int)).toNat < (flipsL L).length := by omega
        unfold gl
        rw [List.getD_eq_getElem?_getD, List.getElem?_eq_getElem hlt]
        exact List.getElem_mem hlt
      obtain ⟨a, b, f, ha, hb, hf, hx⟩ := flips_mem hmem
      obtain ⟨L2, e1, e2, e3, e4⟩ := flip_eq ⟨p, n, m, k, L⟩ (a : Int) (b : Int) (f : Int) 1 hp (by show L.length ≤ 60; omega) (show 0 ≤ (a : Int) ∧ (a : Int) < (L.length : Int) by omega) (show 0 ≤ (b : Int) ∧ (b : Int) < (L.length : Int) by omega) (by omega) (show 0 ≤ (1 : Int) ∧ (1 : Int) ≤ p by omega)
      have e3' : L2.length ≤ L.length := e3
      obtain ⟨L', s, r1, r2, r3⟩ := walk_loop l hl h0 hp (n := n) (m := m) (k := k) d (j + 1) L2 (by omega) (by omega)
      refine ⟨L', s, ?_, ?_, r3⟩
      · rw [iter_next (s' := (((j + 1 : Nat) : Int), L2, p, n, m, k)) ?_]
        · exact r1
        · show spec_WalkFlips_l15 l (j : Int) L p n m k = _
          unfold spec_WalkFlips_l15
          simp only [dtt (show (j : Int) < l.length by omega), if_true, fs, Option.bind_some, dff (show ¬ ((flipsL L).length : Int) = 0 by omega), Bool.false_eq_true, if_false, if_pos (show 0 ≤ (j : Int) ∧ (j : Int) < l.length by omega), gl_nat hjl, if_pos (show ((flipsL L).length : Int) ≠ 0 by omega), if_pos (show 0 ≤ l[j].tmod ((flipsL L).length : Int) ∧ l[j].tmod ((flipsL L).length : Int) < ((flipsL L).length : Int) from ⟨hm1, hm2⟩), hx]
          simp only [show (0 ≤ (0 : Int) ∧ (0 : Int) < (([(a : Int), (b : Int), (f : Int)] : List Int).length : Int)) = True by simp, show (0 ≤ (1 : Int) ∧ (1 : Int) < (([(a : Int), (b : Int), (f : Int)] : List Int).length : Int)) = True by simp, show (0 ≤ (2 : Int) ∧ (2 : Int) < (([(a : Int), (b : Int), (f : Int)] : List Int).length : Int)) = True by simp, if_true]
          rw [show gl 0 [(a : Int), (b : Int), (f : Int)] 0 = a from rfl, show gl 0 [(a : Int), (b : Int), (f : Int)] 1 = b from rfl, show gl 0 [(a : Int), (b : Int), (f : Int)] 2 = f from rfl, e1]
          simp only [Option.bind_some]
          rw [w64s (by omega)]
      · rw [iter_next (s' := (((j + 1 : Nat) : Int), p, n, m, k, L2)) ?_]
        · exact r2
        · show impl_WalkFlips_l18 l (j : Int) p n m k L = _
          unfold impl_WalkFlips_l18
          simp only [dtt (show (j : Int) < l.length by omega), if_true, fi, Option.bind_some, dtt (show (0 : Int) < ((flipsL L).length : Int) by omega), if_pos (show 0 ≤ (j : Int) ∧ (j : Int) < l.length by omega), gl_nat hjl, if_pos (show ((flipsL L).length : Int) ≠ 0 by omega), if_pos (show 0 ≤ l[j].tmod ((flipsL L).length : Int) ∧ l[j].tmod ((flipsL L).length : Int) < ((flipsL L).length : Int) from ⟨hm1, hm2⟩), hx]
          simp only [show (0 ≤ (0 : Int) ∧ (0 : Int) < (([(a : Int), (b : Int), (f : Int)] : List Int).length : Int)) = True by simp, show (0 ≤ (1 : Int) ∧ (1 : Int) < (([(a : Int), (b : Int), (f : Int)] : List Int).length : Int)) = True by simp, show (0 ≤ (2 : Int) ∧ (2 : Int) < (([(a : Int), (b : Int), (f : Int)] : List Int).length : Int)) = True by simp, if_true]
          rw [show gl 0 [(a : Int), (b : Int), (f : Int)] 0 = a from rfl, show gl 0 [(a : Int), (b : Int), (f : Int)] 1 = b from rfl, show gl 0 [(a : Int), (b : Int), (f : Int)] 2 = f from rfl, e2]
          simp only [Option.bind_some]
          rw [w64s (by omega)]
theorem walk_eq (a : Sch) (l : List Int) (ha : a.ps.length ≤ 2097152) : ∃ g e, spec_WalkFlips a l = some (g, e) ∧ impl_WalkFlips a l = some (g, e) ∧ g.ps.length ≤ 60 := by
  obtain ⟨sx, ix⟩ := scheme_eq3 a (by omega)
  unfold spec_WalkFlips impl_WalkFlips
  rw [sx, ix]
  simp only [Option.bind_some]
  cases hS : schemeB a
  · exact ⟨_, _, rfl, rfl, by simp⟩
  have is := schemeB_is hS
  have hl := is.l
  have hp := is.pp
  simp only [Bool.not_true, Bool.false_eq_true, if_false]
  by_cases h200 : (200 : Int) < l.length
  · rw [dtt h200]
    exact ⟨_, _, rfl, rfl, by simp⟩
  rw [dff h200]
  simp only [Bool.false_eq_true, if_false]
  obtain ⟨n1, n2⟩ := walk_num l (by omega)
  rw [n1, n2]
  cases hb : (List.range l.length).all (fun j => if h : j < l.length then decide (0 ≤ l[j]) else true)
  · exact ⟨_, _, rfl, rfl, by simp⟩
  simp only [if_true, Option.bind_some]
  rw [told_eq _ _ (by omega), clone_eq _ (by omega)]
  unfold impl_with
  simp only [Option.bind_some]
  rw [filter_nz (fun q hq => is.nz hq)]
  have h0 : ∀ j, (hj : j < l.length) → 0 ≤ l[j] := fun j hj => by
    have := List.all_eq_true.1 hb j (List.mem_range.2 hj)
    simpa [hj] using this
  obtain ⟨L', s, r1, r2, r3⟩ := walk_loop l (by omega) h0 hp (n := a.n) (m := a.m) (k := a.k) l.length 0 a.ps (by omega) hl
  rw [show ((0 : Nat) : Int) = 0 from rfl] at r1 r2
  rw [r1, r2]
  exact ⟨_, _, rfl, rfl, by show L'.length ≤ 60; omega⟩
end Go.Proofs.YtB
