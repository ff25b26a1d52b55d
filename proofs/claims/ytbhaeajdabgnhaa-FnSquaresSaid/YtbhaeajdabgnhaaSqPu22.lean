/- Plain laws: the ranks of a form, in both forms. -/
import Derived.Test.YtbhaeajdabgnhaaSqPu21
import Derived.Test.YtbhaeajdabgnhaaSqG1
set_option linter.unusedVariables false
set_option linter.unusedSimpArgs false
namespace Go.Proofs.YtB
open Go Go.RowKit Go.Proofs
theorem gl_range {n t : Nat} (h : t < n) : gl 0 (List.range n) (t : Int) = t := by
  rw [gl_nat (by simpa using h), List.getElem_range]
theorem range_nod (n : Nat) : nod n (List.range n) := by
  intro a b ha hb h
  rwa [gl_range ha, gl_range hb] at h
theorem getD_at {L : List (List Int)} {t : Nat} (h : t < L.length) : L.getD t [] = L[t] := by
  rw [List.getD_eq_getElem?_getD, List.getElem?_eq_getElem h]; rfl
theorem rank_l1 (L : List (List Int)) (hL : L.length ≤ 1000) (hr : ∀ x ∈ L, x.length ≤ 1000) : iter (fun s : Int × List Nat × List (List Int) => impl_rank_l1 L s.1 s.2.1 s.2.2) (0, [], []) = some (.stop ((L.length : Int), List.range L.length, L)) := by
  have := iter_up (body := fun s : Int × List Nat × List (List Int) => impl_rank_l1 L s.1 s.2.1 s.2.2) (fun j => ((j : Int), List.range j, L.take j)) L.length (s' := ((L.length : Int), List.range L.length, L)) (fun j hj => by
    show impl_rank_l1 L (j : Int) (List.range j) (L.take j) = _
    unfold impl_rank_l1
    rw [dtt (by omega), if_pos rfl, if_pos ⟨by omega, by omega⟩, gl_nat hj, clone_ints _ (hr _ (List.getElem_mem hj))]
    simp only [Option.bind_some]
    rw [if_pos (by simp; omega), w64s (by omega), List.range_succ, List.take_append_getElem hj, List.length_take, Nat.min_eq_left (by omega)]) (by
    show impl_rank_l1 L (L.length : Int) (List.range L.length) (L.take L.length) = _
    unfold impl_rank_l1
    rw [dff (by omega), if_neg (by decide), List.take_length])
  simpa using this
theorem smod {p x s y : Int} (hp : pr p) (x0 : 0 ≤ x) (x1 : x < p) (s0 : 0 ≤ s) (s1 : s < p) (y0 : 0 ≤ y) (y1 : y < p) : spec_l01Mod p (w64 (x - (w64 (s * y)))) = some ((x - s * y) % p) := by
  unfold spec_l01Mod
  have l := pr_le hp
  rw [if_pos (by omega), modfix hp x0 x1 s0 s1 y0 y1]
end Go.Proofs.YtB
