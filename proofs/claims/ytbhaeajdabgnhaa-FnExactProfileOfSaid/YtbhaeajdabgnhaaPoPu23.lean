/- Plain laws: all ranks, in both forms; rows of numbers in the laws. -/
import Derived.Test.YtbhaeajdabgnhaaPoPu22
import Derived.Test.YtbhaeajdabgnhaaPoG2
import Derived.Test.YtbhaeajdabgnhaaPoG1
set_option linter.unusedVariables false
set_option linter.unusedSimpArgs false
namespace Go.Proofs.YtB
open Go Go.RowKit Go.Proofs
def rkN (p r c : Int) (f : Form) : Int := (rk p r.toNat c.toNat 0 0 (mrow f c.toNat) : Int)
def rkE (a : Sch) (q : Prod) : List Int := [rkN a.p a.n a.m q.1, rkN a.p a.m a.k q.2.1, rkN a.p a.n a.k q.2.2]
theorem rank_both {p r c : Int} {f : Form} (hp : pr p) (hr : 1 ≤ r ∧ r ≤ 3) (hc : 1 ≤ c ∧ c ≤ 3) (hl : ∀ j, (hj : j < 9) → ((f[j].toNat : Nat) : Int) < p) : spec_l01Rank p f r c = some (rkN p r c f) ∧ ∃ x, impl_matrixOf f r c = some x ∧ impl_rank p x = some (rkN p r c f) := by
  have er : r = (r.toNat : Int) := by omega
  have ec : c = (c.toNat : Int) := by omega
  have h1 := rank_s (r := r.toNat) (c := c.toNat) hp (by omega) (by omega) hl
  have h2 := matrix_i f r.toNat c.toNat (by omega) (by omega) (by omega)
  have h3 := rank_i (r := r.toNat) (c := c.toNat) hp (by omega) (by omega) hl
  rw [← er, ← ec] at h1 h2
  exact ⟨h1, _, h2, h3⟩
theorem ranks_both {a : Sch} (h : IsSch a) : spec_RanksOf_l4 = spec_RanksOf_l4 ∧ iter (fun s : Int × List Nat × List (List Int) => spec_RanksOf_l4 a s.1 s.2.1 s.2.2) (0, [], []) = some (.stop ((a.ps.length : Int), List.range a.ps.length, a.ps.map (rkE a))) ∧ iter (fun s : Int × List Nat × List (List Int) => impl_ranks_l1 a s.1 s.2.1 s.2.2) (0, [], []) = some (.stop ((a.ps.length : Int), List.range a.ps.length, a.ps.map (rkE a))) := by
  have hl := h.l
  have hq : ∀ (j : Nat) (hj : j < a.ps.length), (spec_l01Rank a.p a.ps[j].1 a.n a.m = some (rkN a.p a.n a.m a.ps[j].1) ∧ ∃ x, impl_matrixOf a.ps[j].1 a.n a.m = some x ∧ impl_rank a.p x = some (rkN a.p a.n a.m a.ps[j].1)) ∧ (spec_l01Rank a.p a.ps[j].2.1 a.m a.k = some (rkN a.p a.m a.k a.ps[j].2.1) ∧ ∃ x, impl_matrixOf a.ps[j].2.1 a.m a.k = some x ∧ impl_rank a.p x = some (rkN a.p a.m a.k a.ps[j].2.1)) ∧ (spec_l01Rank a.p a.ps[j].2.2 a.n a.k = some (rkN a.p a.n a.k a.ps[j].2.2) ∧ ∃ x, impl_matrixOf a.ps[j].2.2 a.n a.k = some x ∧ impl_rank a.p x = some (rkN a.p a.n a.k a.ps[j].2.2)) := fun j hj => by
    have := h.q _ (List.getElem_mem hj)
    unfold goodP at this
    simp only [Bool.and_eq_true] at this
    exact ⟨rank_both h.p h.n h.m (goodF_lt this.1.1.1), rank_both h.p h.m h.k (goodF_lt this.1.1.2), rank_both h.p h.n h.k (goodF_lt this.1.2)⟩
  have hml : (a.ps.map (rkE a)).length = a.ps.length := by simp
  refine ⟨rfl, ?_, ?_⟩
  · have := iter_up (body := fun s : Int × List Nat × List (List Int) => spec_RanksOf_l4 a s.1 s.2.1 s.2.2) (fun j => ((j : Int), List.range j, (a.ps.map (rkE a)).take j)) a.ps.length (s' := ((a.ps.length : Int), List.range a.ps.length, a.ps.map (rkE a))) (fun j hj => by
      show spec_RanksOf_l4 a (j : Int) (List.range j) ((a.ps.map (rkE a)).take j) = _
      unfold spec_RanksOf_l4
      obtain ⟨⟨h1, _⟩, ⟨h2, _⟩, h3, _⟩ := hq j hj
      rw [dtt (by omega), if_pos rfl, if_pos ⟨by omega, by omega⟩, gl_nat hj, h1]
      simp only [Option.bind_some]
      rw [h2]
      simp only [Option.bind_some]
      rw [h3]
      simp only [Option.bind_some]
      have e : [rkN a.p a.n a.m a.ps[j].1, rkN a.p a.m a.k a.ps[j].2.1, rkN a.p a.n a.k a.ps[j].2.2] = (a.ps.map (rkE a))[j]'(by omega) := by simp [rkE]
      rw [if_pos (by simp; omega), w64s (by omega), List.range_succ, e, List.take_append_getElem (by omega), List.length_take, hml, Nat.min_eq_left (by omega)]) (by
      show spec_RanksOf_l4 a (a.ps.length : Int) (List.range a.ps.length) ((a.ps.map (rkE a)).take a.ps.length) = _
      unfold spec_RanksOf_l4
      rw [dff (by omega), if_neg (by decide), List.take_of_length_le (by omega)])
    simpa using this
  · have := iter_up (body := fun s : Int × List Nat × List (List Int) => impl_ranks_l1 a s.1 s.2.1 s.2.2) (fun j => ((j : Int), List.range j, (a.ps.map (rkE a)).take j)) a.ps.length (s' := ((a.ps.length : Int), List.range a.ps.length, a.ps.map (rkE a))) (fun j hj => by
      show impl_ranks_l1 a (j : Int) (List.range j) ((a.ps.map (rkE a)).take j) = _
      unfold impl_ranks_l1
      obtain ⟨⟨_, x1, h1, g1⟩, ⟨_, x2, h2, g2⟩, _, x3, h3, g3⟩ := hq j hj
      rw [dtt (by omega), if_pos rfl, if_pos ⟨by omega, by omega⟩, gl_nat hj, h1]
      simp only [Option.bind_some]
      rw [g1]
      simp only [Option.bind_some]
      rw [h2]
      simp only [Option.bind_some]
      rw [g2]
      simp only [Option.bind_some]
      rw [h3]
      simp only [Option.bind_some]
      rw [g3]
      simp only [Option.bind_some]
      have e : [rkN a.p a.n a.m a.ps[j].1, rkN a.p a.m a.k a.ps[j].2.1, rkN a.p a.n a.k a.ps[j].2.2] = (a.ps.map (rkE a))[j]'(by omega) := by simp [rkE]
      rw [if_pos (by simp; omega), w64s (by omega), List.range_succ, e, List.take_append_getElem (by omega), List.length_take, hml, Nat.min_eq_left (by omega)]) (by
      show impl_ranks_l1 a (a.ps.length : Int) (List.range a.ps.length) ((a.ps.map (rkE a)).take a.ps.length) = _
      unfold impl_ranks_l1
      rw [dff (by omega), if_neg (by decide), List.take_of_length_le (by omega)])
    simpa using this
theorem eqGrid {L : List (List Int)} (hL : L.length ≤ 60) (h : ∀ x ∈ L, x.length = 3) : laws_eqInt64SS L L = some true := by
  unfold laws_eqInt64SS
  simp only [ne_eq, not_true_eq_false, decide_false, Bool.false_eq_true, if_false]
  have := iter_up (body := fun s : Int => laws_eqInt64SS_l2 L L s) (fun j => (j : Int)) L.length (s' := (L.length : Int)) (fun j hj => by
    show laws_eqInt64SS_l2 L L (j : Int) = _
    unfold laws_eqInt64SS_l2
    have h3 := h _ (List.getElem_mem hj)
    rw [dtt (by omega), if_pos rfl, if_pos ⟨by omega, by omega⟩, if_pos ⟨by omega, by omega⟩, gl_nat hj, eqInts_eq (by omega)]
    simp only [Option.bind_some, decide_true, Bool.not_true, Bool.false_eq_true, if_false]
    rw [w64s (by omega)]) (by
    show laws_eqInt64SS_l2 L L (L.length : Int) = _
    unfold laws_eqInt64SS_l2
    rw [dff (by omega), if_neg (by decide)])
  rw [show ((0 : Nat) : Int) = 0 from rfl] at this
  rw [this]
  rfl
def marksG (n : Nat) : List (List Int) := (List.range n).map fun i : Nat => marksI (1 + 3 * (i : Int)) 3
theorem marksG_len (n : Nat) : (marksG n).length = n := by simp [marksG]
theorem marksG_get {n i : Nat} (h : i < n) : (marksG n)[i]'(by rw [marksG_len]; exact h) = marksI (1 + 3 * (i : Int)) 3 := by simp [marksG]
theorem markGrid {L : List (List Int)} (hL : L.length ≤ 60) (h : ∀ x ∈ L, x.length = 3) : laws_markInt64SS L 1 = some (1 + 3 * (L.length : Int), marksG L.length) := by
  unfold laws_markInt64SS
  have hml := marksG_len L.length
  have := iter_up (body := fun s : Int × Int × List (List Int) => laws_markInt64SS_l1 L s.1 s.2.1 s.2.2) (fun j => (1 + 3 * (j : Int), (j : Int), (marksG L.length).take j ++ L.drop j)) L.length (s' := (1 + 3 * (L.length : Int), (L.length : Int), marksG L.length)) (fun j hj => by
    show laws_markInt64SS_l1 L (1 + 3 * (j : Int)) (j : Int) ((marksG L.length).take j ++ L.drop j) = _
    unfold laws_markInt64SS_l1
    have h1 : ((marksG L.length).take j).length = j := by rw [List.length_take]; omega
    have e : ((marksG L.length).take j ++ L.drop j).getD j [] = L[j] := by
      rw [List.getD_eq_getElem?_getD, List.getElem?_append_right (by omega), h1, Nat.sub_self, List.getElem?_drop]
      simp [hj]
    rw [List.length_range, dtt (by omega), if_pos rfl, if_pos ⟨by omega, by omega⟩, gl_range hj, e, markInts_eq (by rw [h _ (List.getElem_mem hj)]; omega) (by omega) (by omega), h _ (List.getElem_mem hj)]
    simp only [Option.bind_some]
    rw [w64s (by omega), List.set_append_right _ _ (by omega), h1, Nat.sub_self, List.drop_eq_getElem_cons hj, List.set_cons_zero, ← List.take_append_getElem (show j < (marksG L.length).length by omega), marksG_get hj, List.append_assoc, show 1 + 3 * (j : Int) + ((3 : Nat) : Int) = 1 + 3 * ((j + 1 : Nat) : Int) by omega]
    rfl) (by
    show laws_markInt64SS_l1 L (1 + 3 * (L.length : Int)) (L.length : Int) _ = _
    unfold laws_markInt64SS_l1
    rw [List.length_range, dff (by omega), if_neg (by decide), List.take_of_length_le (by omega), List.drop_of_length_le (by omega), List.append_nil])
  have h0 : ((1 : Int) + 3 * ((0 : Nat) : Int), ((0 : Nat) : Int), (marksG L.length).take 0 ++ L.drop 0) = (1, 0, L) := by simp
  rw [h0] at this
  rw [this]
  rfl
theorem heldGrid {n : Nat} (hn : n ≤ 60) : laws_heldInt64SS (marksG n) 1 = some (1 + 3 * (n : Int)) := by
  unfold laws_heldInt64SS
  have hml := marksG_len n
  have := iter_up (body := fun s : Int × Int => laws_heldInt64SS_l1 (marksG n) s.1 s.2) (fun j => (1 + 3 * (j : Int), (j : Int))) n (s' := (1 + 3 * (n : Int), (n : Int))) (fun j hj => by
    show laws_heldInt64SS_l1 (marksG n) (1 + 3 * (j : Int)) (j : Int) = _
    unfold laws_heldInt64SS_l1
    rw [hml, dtt (by omega), if_pos rfl, if_pos ⟨by omega, by omega⟩, gl_nat (by omega), marksG_get hj, heldInts_eq (by omega) (by omega) (by omega)]
    simp only [Option.bind_some]
    rw [dff (by omega), if_neg (by decide), w64s (by omega), show 1 + 3 * (j : Int) + ((3 : Nat) : Int) = 1 + 3 * ((j + 1 : Nat) : Int) by omega]) (by
    show laws_heldInt64SS_l1 (marksG n) (1 + 3 * (n : Int)) (n : Int) = _
    unfold laws_heldInt64SS_l1
    rw [hml, dff (by omega), if_neg (by decide)])
  have h0 : ((1 : Int) + 3 * ((0 : Nat) : Int), ((0 : Nat) : Int)) = (1, 0) := by simp
  rw [h0] at this
  rw [this]
  rfl
end Go.Proofs.YtB
