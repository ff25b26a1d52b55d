/- Plain laws: marks are laid, and are found again. -/
import Derived.Test.YtbhaeajdabgnhaaCsPu1
import Derived.Test.YtbhaeajdabgnhaaCsG1
set_option linter.unusedVariables false
set_option linter.unusedSimpArgs false
namespace Go.Proofs.YtB
open Go Go.RowKit Go.Proofs
def mkF (k : Int) : Form := Vector.ofFn fun t : Fin 9 => u8 (k + t.1)
def part (v : Form) (k : Int) (j : Nat) : Form := Vector.ofFn fun t : Fin 9 => if t.1 < j then u8 (k + t.1) else v[t.1]
theorem part_zero (v : Form) (k : Int) : part v k 0 = v := by
  apply Vector.ext
  intro i hi
  simp [part]
theorem part_nine (v : Form) (k : Int) : part v k 9 = mkF k := by
  apply Vector.ext
  intro i hi
  simp [part, mkF, hi]
theorem part_step (v : Form) (k : Int) {j : Nat} (hj : j < 9) : vs (part v k j) (j : Int) (u8 (k + j)) = part v k (j + 1) := by
  unfold vs part
  apply Vector.ext
  intro i hi
  simp only [Int.toNat_natCast, Vector.getElem_setIfInBounds hi, Vector.getElem_ofFn]
  by_cases h : j = i
  · subst h; simp
  · rw [if_neg h]
    by_cases h2 : i < j
    · rw [if_pos h2, if_pos (by omega)]
    · rw [if_neg h2, if_neg (by omega)]
theorem gl_set {L : List Prod} {i : Nat} {q : Prod} (hi : i < L.length) : gl zProd (L.set i q) (i : Int) = q := by
  rw [gl_nat (by simpa using hi)]
  simp
theorem mark_1 {L : List Prod} {i : Nat} {k : Int} (hi : i < L.length) (hk : 0 ≤ k) (hk2 : k ≤ 1000000000000) :
    iter (fun s => laws_markProductS_l6 (i : Int) s.1 s.2.1 s.2.2) (k, 0, L) = some (.stop (k + 9, 9, L.set i (mkF k, L[i].2))) := by
  have h := iter_up (body := fun s : Int × Int × List Prod => laws_markProductS_l6 (i : Int) s.1 s.2.1 s.2.2) (fun j => (k + (j : Int), (j : Int), L.set i (part L[i].1 k j, L[i].2))) 9 (s' := (k + 9, 9, L.set i (mkF k, L[i].2))) (fun j hj => by
    show laws_markProductS_l6 (i : Int) (k + (j : Int)) (j : Int) (L.set i (part L[i].1 k j, L[i].2)) = _
    unfold laws_markProductS_l6
    rw [dtt (by omega : (j : Int) < 9), if_pos rfl, if_pos ⟨by omega, by rw [List.length_set]; omega⟩, if_pos (by omega), gl_set hi, w64_id (by omega) (by omega), w64s (by omega), Int.toNat_natCast, List.set_set]
    show some (LR.next (k + (j : Int) + 1, ((j + 1 : Nat) : Int), L.set i (vs (part L[i].1 k j) (j : Int) (u8 (k + j)), L[i].2))) = _
    rw [part_step _ _ hj, Int.natCast_succ, Int.add_assoc]) (by
    show laws_markProductS_l6 (i : Int) _ 9 _ = _
    unfold laws_markProductS_l6
    rw [dff (by omega), if_neg (by decide), part_nine]
    rfl)
  rw [show ((0 : Nat) : Int) = 0 from rfl, part_zero, Int.add_zero, show (L[i].1, L[i].2) = L[i] from rfl, List.set_getElem_self] at h
  exact h
theorem mark_2 {L : List Prod} {i : Nat} {k : Int} (hi : i < L.length) (hk : 0 ≤ k) (hk2 : k ≤ 1000000000000) :
    iter (fun s => laws_markProductS_l14 (i : Int) s.1 s.2.1 s.2.2) (k, 0, L) = some (.stop (k + 9, 9, L.set i (L[i].1, mkF k, L[i].2.2))) := by
  have h := iter_up (body := fun s : Int × Int × List Prod => laws_markProductS_l14 (i : Int) s.1 s.2.1 s.2.2) (fun j => (k + (j : Int), (j : Int), L.set i (L[i].1, part L[i].2.1 k j, L[i].2.2))) 9 (s' := (k + 9, 9, L.set i (L[i].1, mkF k, L[i].2.2))) (fun j hj => by
    show laws_markProductS_l14 (i : Int) (k + (j : Int)) (j : Int) (L.set i (L[i].1, part L[i].2.1 k j, L[i].2.2)) = _
    unfold laws_markProductS_l14
    rw [dtt (by omega : (j : Int) < 9), if_pos rfl, if_pos ⟨by omega, by rw [List.length_set]; omega⟩, if_pos (by omega), gl_set hi, w64_id (by omega) (by omega), w64s (by omega), Int.toNat_natCast, List.set_set]
    show some (LR.next (k + (j : Int) + 1, ((j + 1 : Nat) : Int), L.set i (L[i].1, vs (part L[i].2.1 k j) (j : Int) (u8 (k + j)), L[i].2.2))) = _
    rw [part_step _ _ hj, Int.natCast_succ, Int.add_assoc]) (by
    show laws_markProductS_l14 (i : Int) _ 9 _ = _
    unfold laws_markProductS_l14
    rw [dff (by omega), if_neg (by decide), part_nine]
    rfl)
  rw [show ((0 : Nat) : Int) = 0 from rfl, part_zero, Int.add_zero, show (L[i].1, L[i].2.1, L[i].2.2) = L[i] from rfl, List.set_getElem_self] at h
  exact h
theorem mark_3 {L : List Prod} {i : Nat} {k : Int} (hi : i < L.length) (hk : 0 ≤ k) (hk2 : k ≤ 1000000000000) :
    iter (fun s => laws_markProductS_l22 (i : Int) s.1 s.2.1 s.2.2) (k, 0, L) = some (.stop (k + 9, 9, L.set i (L[i].1, L[i].2.1, mkF k))) := by
  have h := iter_up (body := fun s : Int × Int × List Prod => laws_markProductS_l22 (i : Int) s.1 s.2.1 s.2.2) (fun j => (k + (j : Int), (j : Int), L.set i (L[i].1, L[i].2.1, part L[i].2.2 k j))) 9 (s' := (k + 9, 9, L.set i (L[i].1, L[i].2.1, mkF k))) (fun j hj => by
    show laws_markProductS_l22 (i : Int) (k + (j : Int)) (j : Int) (L.set i (L[i].1, L[i].2.1, part L[i].2.2 k j)) = _
    unfold laws_markProductS_l22
    rw [dtt (by omega : (j : Int) < 9), if_pos rfl, if_pos ⟨by omega, by rw [List.length_set]; omega⟩, if_pos (by omega), gl_set hi, w64_id (by omega) (by omega), w64s (by omega), Int.toNat_natCast, List.set_set]
    show some (LR.next (k + (j : Int) + 1, ((j + 1 : Nat) : Int), L.set i (L[i].1, L[i].2.1, vs (part L[i].2.2 k j) (j : Int) (u8 (k + j))))) = _
    rw [part_step _ _ hj, Int.natCast_succ, Int.add_assoc]) (by
    show laws_markProductS_l22 (i : Int) _ 9 _ = _
    unfold laws_markProductS_l22
    rw [dff (by omega), if_neg (by decide), part_nine]
    rfl)
  rw [show ((0 : Nat) : Int) = 0 from rfl, part_zero, Int.add_zero, show (L[i].1, L[i].2.1, L[i].2.2) = L[i] from rfl, List.set_getElem_self] at h
  exact h
/-- the marks of n products, from k on -/
def mark1 (k : Int) (i : Nat) : Prod := (mkF (k + 27 * i), mkF (k + 27 * i + 9), mkF (k + 27 * i + 18))
def marks (k : Int) (n : Nat) : List Prod := (List.range n).map (mark1 k)
theorem marks_len (k : Int) (n : Nat) : (marks k n).length = n := by simp [marks]
theorem marks_get (k : Int) {n i : Nat} (h : i < (marks k n).length) : (marks k n)[i] = mark1 k i := by simp [marks]
theorem marks_succ (k : Int) (n : Nat) : marks k (n + 1) = marks k n ++ [mark1 k n] := by simp [marks, List.range_succ]
theorem laws_markProductS_eq {L : List Prod} {k : Int} (hL : L.length ≤ 2097152) (hk : 0 ≤ k) (hk2 : k ≤ 1000000000) : laws_markProductS L k = some (k + 27 * L.length, marks k L.length) := by
  unfold laws_markProductS
  have h := iter_up (body := fun s : Int × Int × List Prod => laws_markProductS_l1 s.1 s.2.1 s.2.2) (fun j => (k + 27 * (j : Int), (j : Int), marks k j ++ L.drop j)) L.length (s' := (k + 27 * (L.length : Int), (L.length : Int), marks k L.length)) (fun j hj => by
    have hlen : (marks k j ++ L.drop j).length = L.length := by simp [marks_len]; omega
    show laws_markProductS_l1 (k + 27 * (j : Int)) (j : Int) (marks k j ++ L.drop j) = _
    unfold laws_markProductS_l1
    have hj2 : j < (marks k j ++ L.drop j).length := by rw [hlen]; exact hj
    rw [dtt (by rw [hlen]; omega), if_pos rfl, mark_1 hj2 (by omega) (by omega)]
    simp only [Option.bind_some]
    rw [mark_2 (by simpa using hj2) (by omega) (by omega)]
    simp only [Option.bind_some]
    rw [mark_3 (by simpa using hj2) (by omega) (by omega)]
    simp only [Option.bind_some, List.set_set, List.getElem_set_self]
    rw [w64s (by omega)]
    have e : (marks k j ++ L.drop j).set j (mkF (k + 27 * (j : Int)), mkF (k + 27 * (j : Int) + 9), mkF (k + 27 * (j : Int) + 9 + 9)) = marks k (j + 1) ++ L.drop (j + 1) := by
      rw [List.set_append_right _ _ (by rw [marks_len]; exact Nat.le_refl _), marks_len, Nat.sub_self, List.drop_eq_getElem_cons hj, List.set_cons_zero, marks_succ, List.append_assoc]
      unfold mark1
      rw [show k + 27 * (j : Int) + 9 + 9 = k + 27 * (j : Int) + 18 by omega]
      rfl
    rw [e]
    congr 3
    omega) (by
    show laws_markProductS_l1 _ (L.length : Int) (marks k L.length ++ L.drop L.length) = _
    unfold laws_markProductS_l1
    rw [List.drop_length, List.append_nil, dff (by rw [marks_len]; omega), if_neg (by decide)])
  rw [show ((0 : Nat) : Int) = 0 from rfl, show marks k 0 = [] from rfl, List.drop_zero, List.nil_append, Int.mul_zero, Int.add_zero] at h
  rw [h]
  rfl
theorem laws_markScheme_eq {a : Sch} {k : Int} (hL : a.ps.length ≤ 2097152) (hk : 0 ≤ k) (hk2 : k ≤ 1000000000) : laws_markScheme a k = some (k + 27 * a.ps.length, marks k a.ps.length) := by
  unfold laws_markScheme
  rw [laws_markProductS_eq hL hk hk2]
  rfl
theorem mkF_get (k : Int) {j : Nat} (hj : j < 9) : (mkF k)[j] = u8 (k + j) := by simp [mkF]
theorem held_1 {L : List Prod} {i : Nat} {k : Int} (hi : i < L.length) (hm : L[i].1 = mkF k) (hk : 0 ≤ k) (hk2 : k ≤ 1000000000000) :
    iter (fun s : Int × Int => laws_heldProductS_l5 L (i : Int) s.1 s.2) (k, 0) = some (.stop (k + 9, 9)) := by
  have h := iter_up (body := fun s : Int × Int => laws_heldProductS_l5 L (i : Int) s.1 s.2) (fun j => (k + (j : Int), (j : Int))) 9 (s' := (k + 9, 9)) (fun j hj => by
    show laws_heldProductS_l5 L (i : Int) (k + (j : Int)) (j : Int) = _
    unfold laws_heldProductS_l5
    rw [dtt (by omega : (j : Int) < 9), if_pos rfl, if_pos (by omega), if_pos (by omega), gl_nat hi, hm, vg_nat hj, mkF_get k hj, dff (by simp), if_neg (by decide), w64_id (by omega) (by omega), w64s (by omega), Int.natCast_succ, Int.add_assoc]) (by
    show laws_heldProductS_l5 L (i : Int) _ 9 = _
    unfold laws_heldProductS_l5
    rw [dff (by omega), if_neg (by decide)]
    rfl)
  rw [show ((0 : Nat) : Int) = 0 from rfl, Int.add_zero] at h
  exact h
theorem held_2 {L : List Prod} {i : Nat} {k : Int} (hi : i < L.length) (hm : L[i].2.1 = mkF k) (hk : 0 ≤ k) (hk2 : k ≤ 1000000000000) :
    iter (fun s : Int × Int => laws_heldProductS_l13 L (i : Int) s.1 s.2) (k, 0) = some (.stop (k + 9, 9)) := by
  have h := iter_up (body := fun s : Int × Int => laws_heldProductS_l13 L (i : Int) s.1 s.2) (fun j => (k + (j : Int), (j : Int))) 9 (s' := (k + 9, 9)) (fun j hj => by
    show laws_heldProductS_l13 L (i : Int) (k + (j : Int)) (j : Int) = _
    unfold laws_heldProductS_l13
    rw [dtt (by omega : (j : Int) < 9), if_pos rfl, if_pos (by omega), if_pos (by omega), gl_nat hi, hm, vg_nat hj, mkF_get k hj, dff (by simp), if_neg (by decide), w64_id (by omega) (by omega), w64s (by omega), Int.natCast_succ, Int.add_assoc]) (by
    show laws_heldProductS_l13 L (i : Int) _ 9 = _
    unfold laws_heldProductS_l13
    rw [dff (by omega), if_neg (by decide)]
    rfl)
  rw [show ((0 : Nat) : Int) = 0 from rfl, Int.add_zero] at h
  exact h
theorem held_3 {L : List Prod} {i : Nat} {k : Int} (hi : i < L.length) (hm : L[i].2.2 = mkF k) (hk : 0 ≤ k) (hk2 : k ≤ 1000000000000) :
    iter (fun s : Int × Int => laws_heldProductS_l21 L (i : Int) s.1 s.2) (k, 0) = some (.stop (k + 9, 9)) := by
  have h := iter_up (body := fun s : Int × Int => laws_heldProductS_l21 L (i : Int) s.1 s.2) (fun j => (k + (j : Int), (j : Int))) 9 (s' := (k + 9, 9)) (fun j hj => by
    show laws_heldProductS_l21 L (i : Int) (k + (j : Int)) (j : Int) = _
    unfold laws_heldProductS_l21
    rw [dtt (by omega : (j : Int) < 9), if_pos rfl, if_pos (by omega), if_pos (by omega), gl_nat hi, hm, vg_nat hj, mkF_get k hj, dff (by simp), if_neg (by decide), w64_id (by omega) (by omega), w64s (by omega), Int.natCast_succ, Int.add_assoc]) (by
    show laws_heldProductS_l21 L (i : Int) _ 9 = _
    unfold laws_heldProductS_l21
    rw [dff (by omega), if_neg (by decide)]
    rfl)
  rw [show ((0 : Nat) : Int) = 0 from rfl, Int.add_zero] at h
  exact h
theorem laws_heldProductS_eq {n : Nat} {k : Int} (hn : n ≤ 2097152) (hk : 0 ≤ k) (hk2 : k ≤ 1000000000) : laws_heldProductS (marks k n) k = some (k + 27 * n) := by
  unfold laws_heldProductS
  have h := iter_up (body := fun s : Int × Int => laws_heldProductS_l1 (marks k n) s.1 s.2) (fun j => (k + 27 * (j : Int), (j : Int))) n (s' := (k + 27 * (n : Int), (n : Int))) (fun j hj => by
    show laws_heldProductS_l1 (marks k n) (k + 27 * (j : Int)) (j : Int) = _
    unfold laws_heldProductS_l1
    have hj2 : j < (marks k n).length := by rw [marks_len]; exact hj
    rw [dtt (by rw [marks_len]; omega), if_pos rfl, held_1 hj2 (by rw [marks_get]; rfl) (by omega) (by omega)]
    simp only [Option.bind_some]
    rw [held_2 hj2 (by rw [marks_get]; rfl) (by omega) (by omega)]
    simp only [Option.bind_some]
    rw [held_3 hj2 (by rw [marks_get, show k + 27 * (j : Int) + 9 + 9 = k + 27 * (j : Int) + 18 by omega]; rfl) (by omega) (by omega)]
    simp only [Option.bind_some]
    rw [w64s (by omega)]
    congr 3
    omega) (by
    show laws_heldProductS_l1 (marks k n) _ (n : Int) = _
    unfold laws_heldProductS_l1
    rw [dff (by rw [marks_len]; omega), if_neg (by decide)])
  rw [show ((0 : Nat) : Int) = 0 from rfl, Int.mul_zero, Int.add_zero] at h
  rw [h]
  rfl
theorem laws_heldScheme_eq {a : Sch} {n : Nat} {k : Int} (ha : a.ps = marks k n) (hn : n ≤ 2097152) (hk : 0 ≤ k) (hk2 : k ≤ 1000000000) : laws_heldScheme a k = some (k + 27 * n) := by
  unfold laws_heldScheme
  rw [ha, laws_heldProductS_eq hn hk hk2]
  simp only [Option.bind_some]
  rw [dff (by omega), if_neg (by decide)]
end Go.Proofs.YtB
