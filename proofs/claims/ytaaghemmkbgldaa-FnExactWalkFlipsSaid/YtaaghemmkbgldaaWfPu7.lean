/- Plain laws: what stays of a list of products when those with a factor 0 go. -/
import Derived.Test.YtaaghemmkbgldaaWfPu6
import Derived.Test.YtaaghemmkbgldaaWfG1
set_option linter.unusedVariables false
set_option linter.unusedSimpArgs false
namespace Go.Proofs.YtB
open Go Go.RowKit Go.Proofs

def nz (q : Prod) : Bool := !(decide (q.1 = zForm) || decide (q.2.1 = zForm) || decide (q.2.2 = zForm))
theorem hasZero_eq (q : Prod) : impl_hasZero q = some (!nz q) := by
  unfold impl_hasZero nz
  by_cases z1 : q.1 = zForm <;> by_cases z2 : q.2.1 = zForm <;> simp [z1, z2]
theorem told_eq (a : Sch) (L : List Prod) (hL : L.length ≤ 1000) : spec_l03Told a L = some ⟨a.p, a.n, a.m, a.k, L.filter nz⟩ := by
  unfold spec_l03Told spec_l01Empty
  simp only [Option.bind_some]
  have h := iter_up (body := fun s : Int × List Prod => spec_l03Told_l5 L s.1 s.2) (fun j => ((j : Int), (L.take j).filter nz)) L.length (s' := ((L.length : Int), L.filter nz)) (fun j hj => by
    show spec_l03Told_l5 L (j : Int) ((L.take j).filter nz) = _
    unfold spec_l03Told_l5 spec_l01Zero
    have hf : ((L.take j).filter nz).length ≤ j := Nat.le_trans (List.length_filter_le _ _) (by simp; omega)
    rw [dtt (by omega : (j : Int) < L.length), if_pos rfl, if_pos (by omega), gl_nat hj, ← List.take_append_getElem hj, List.filter_append]
    simp only [Option.bind_some]
    have e : (if (!decide (L[j].1 = zForm)) = true then (if (!decide (L[j].2.1 = zForm)) = true then some (!decide (L[j].2.2 = zForm)) else some false) else some false) = some (nz L[j]) := by
      unfold nz
      by_cases z1 : L[j].1 = zForm <;> by_cases z2 : L[j].2.1 = zForm <;> simp [z1, z2]
    rw [e]
    simp only [Option.bind_some]
    cases hn : nz L[j]
    · rw [if_neg (by decide), w64s (by omega), show [L[j]].filter nz = [] by simp [hn], List.append_nil]
    · rw [if_pos rfl, if_pos (by simp only [List.length_singleton]; omega), w64s (by omega), show [L[j]].filter nz = [L[j]] by simp [hn]]) (by
    show spec_l03Told_l5 L (L.length : Int) _ = _
    unfold spec_l03Told_l5
    rw [dff (by omega), if_neg (by decide), List.take_length])
  rw [show iter (fun s : Int × List Prod => spec_l03Told_l5 L s.1 s.2) (0, ([] : List Prod)) = some (.stop ((L.length : Int), L.filter nz)) from h]
  rfl
/-- what DeleteFunc's loop leaves -/
theorem delete_loop (L : List Prod) (hL : L.length ≤ 1000) : ∀ (d j : Nat) (S : List Prod), j + d = L.length → S.length = L.length → S.take ((L.take j).filter nz).length = (L.take j).filter nz → (∀ t, j ≤ t → S[t]? = L[t]?) →
    ∃ S' : List Prod, iter (fun s : Int × Int × List Prod => slices_DeleteFunc_132_f133_l4 s.1 s.2.1 s.2.2) ((((L.take j).filter nz).length : Int), (j : Int), S) = some (.stop (((L.filter nz).length : Int), (L.length : Int), S')) ∧ S'.length = L.length ∧ S'.take (L.filter nz).length = L.filter nz
  | 0, j, S, hj, hS, ht, hd => by
    have : j = L.length := by omega
    subst this
    rw [List.take_length] at ht ⊢
    refine ⟨S, iter_stop ?_, hS, ht⟩
    show slices_DeleteFunc_132_f133_l4 _ (L.length : Int) S = _
    unfold slices_DeleteFunc_132_f133_l4
    rw [dff (by omega), if_neg (by decide)]
  | d + 1, j, S, hj, hS, ht, hd => by
    have hjl : j < L.length := by omega
    have hjS : j < S.length := by omega
    have hf : ((L.take j).filter nz).length ≤ j := Nat.le_trans (List.length_filter_le _ _) (by simp; omega)
    have hSj : S[j] = L[j] := by
      have := hd j (Nat.le_refl _)
      rw [List.getElem?_eq_getElem hjS, List.getElem?_eq_getElem hjl] at this
      injection this
    have htk : L.take (j + 1) = L.take j ++ [L[j]] := (List.take_append_getElem hjl).symm
    cases hn : nz L[j]
    · have hfl : (L.take (j + 1)).filter nz = (L.take j).filter nz := by rw [htk, List.filter_append, show [L[j]].filter nz = [] by simp [hn], List.append_nil]
      obtain ⟨S', h1, h2, h3⟩ := delete_loop L hL d (j + 1) S (by omega) hS (by rw [hfl]; exact ht) (fun t h => hd t (by omega))
      refine ⟨S', ?_, h2, h3⟩
      rw [hfl] at h1
      rw [iter_next (s' := ((((L.take j).filter nz).length : Int), ((j + 1 : Nat) : Int), S)) ?_, h1]
      show slices_DeleteFunc_132_f133_l4 _ (j : Int) S = _
      unfold slices_DeleteFunc_132_f133_l4
      rw [dtt (by omega : (j : Int) < S.length), if_pos rfl, if_pos (by omega), gl_nat hjS, hSj, hasZero_eq, hn]
      simp only [Option.bind_some]
      rw [if_neg (by decide), w64s (by omega)]
    · have hfl : (L.take (j + 1)).filter nz = (L.take j).filter nz ++ [L[j]] := by rw [htk, List.filter_append, show [L[j]].filter nz = [L[j]] by simp [hn]]
      have hfS : ((L.take j).filter nz).length < S.length := by omega
      obtain ⟨S', h1, h2, h3⟩ := delete_loop L hL d (j + 1) (S.set ((L.take j).filter nz).length L[j]) (by omega) (by rw [List.length_set]; exact hS) (by
          rw [hfl, List.length_append, List.length_singleton, ← List.take_append_getElem (by rw [List.length_set]; exact hfS), List.getElem_set_self, List.take_set_of_le (Nat.le_refl _), ht]) (fun t h => by
          rw [List.getElem?_set_ne (by omega)]
          exact hd t (by omega))
      refine ⟨S', ?_, h2, h3⟩
      rw [hfl, List.length_append, List.length_singleton] at h1
      rw [iter_next (s' := (((((L.take j).filter nz).length + 1 : Nat) : Int), ((j + 1 : Nat) : Int), S.set ((L.take j).filter nz).length L[j])) ?_, h1]
      show slices_DeleteFunc_132_f133_l4 _ (j : Int) S = _
      unfold slices_DeleteFunc_132_f133_l4
      rw [dtt (by omega : (j : Int) < S.length), if_pos rfl, if_pos (by omega), gl_nat hjS, hSj, hasZero_eq, hn]
      simp only [Option.bind_some]
      rw [if_pos (by decide), if_pos (by omega), w64s (by omega), w64s (by omega), Int.toNat_natCast]
theorem kept_eq (L : List Prod) (hL : L.length ≤ 1000) : impl_kept L = some (L.filter nz) := by
  unfold impl_kept slices_DeleteFunc_132_f133
  have hidx : (slices_IndexFunc_162_f133 L = some (-1) ∧ ∀ q ∈ L, nz q = true) ∨ ∃ i : Nat, ∃ h : i < L.length, slices_IndexFunc_162_f133 L = some (i : Int) ∧ nz L[i] = false ∧ ∀ t, (ht : t < i) → nz (L[t]'(by omega)) = true := by
    have key : ∀ d j : Nat, j + d = L.length → (∀ t, (ht : t < L.length) → t < j → nz L[t] = true) → (iter (fun s => slices_IndexFunc_162_f133_l1 L s) (j : Int) = some (.stop (L.length : Int)) ∧ ∀ q ∈ L, nz q = true) ∨ ∃ i : Nat, ∃ h : i < L.length, iter (fun s => slices_IndexFunc_162_f133_l1 L s) (j : Int) = some (.ret (i : Int)) ∧ nz L[i] = false ∧ ∀ t, (ht : t < i) → nz (L[t]'(by omega)) = true := by
      intro d
      induction d with
      | zero =>
        intro j hj hall
        left
        have : j = L.length := by omega
        subst this
        refine ⟨iter_stop ?_, fun q hq => ?_⟩
        · show slices_IndexFunc_162_f133_l1 L (L.length : Int) = _
          unfold slices_IndexFunc_162_f133_l1
          rw [dff (by omega), if_neg (by decide)]
        · obtain ⟨t, ht, rfl⟩ := List.getElem_of_mem hq
          exact hall t ht ht
      | succ d ih =>
        intro j hj hall
        have hjl : j < L.length := by omega
        have hb : slices_IndexFunc_162_f133_l1 L (j : Int) = if nz L[j] then some (.next ((j + 1 : Nat) : Int)) else some (.ret (j : Int)) := by
          unfold slices_IndexFunc_162_f133_l1
          rw [dtt (by omega : (j : Int) < L.length), if_pos rfl, if_pos (by omega), gl_nat hjl, hasZero_eq]
          simp only [Option.bind_some]
          rw [w64s (by omega)]
          cases nz L[j] <;> rfl
        cases hn : nz L[j]
        · right
          exact ⟨j, hjl, iter_ret (by rw [hb, hn]; rfl), hn, fun t ht => hall t (by omega) ht⟩
        · rw [iter_next (s' := ((j + 1 : Nat) : Int)) (by rw [hb, hn]; rfl)]
          exact ih (j + 1) (by omega) (fun t ht htj => by
            rcases Nat.lt_or_ge t j with h | h
            · exact hall t ht h
            · have : t = j := by omega
              subst this
              exact hn)
    rcases key L.length 0 (by omega) (fun t ht h => by omega) with ⟨h1, h2⟩ | ⟨i, h, h1, h2, h3⟩
    · left
      refine ⟨?_, h2⟩
      unfold slices_IndexFunc_162_f133
      rw [show ((0 : Nat) : Int) = 0 from rfl] at h1
      rw [h1]
      rfl
    · right
      refine ⟨i, h, ?_, h2, h3⟩
      unfold slices_IndexFunc_162_f133
      rw [show ((0 : Nat) : Int) = 0 from rfl] at h1
      rw [h1]
      rfl
  rcases hidx with ⟨h1, h2⟩ | ⟨i, hi, h1, h2, h3⟩
  · rw [h1]
    simp only [Option.bind_some, decide_true, if_true]
    congr 1
    exact (List.filter_eq_self.2 h2).symm
  · rw [h1]
    simp only [Option.bind_some]
    rw [dff (by omega), if_neg (by decide), w64s (by omega)]
    have hti : (L.take i).filter nz = L.take i := List.filter_eq_self.2 (fun q hq => by
      obtain ⟨t, ht, rfl⟩ := List.getElem_of_mem hq
      rw [List.getElem_take]
      exact h3 t (by simp at ht; omega))
    have hti1 : (L.take (i + 1)).filter nz = L.take i := by rw [← List.take_append_getElem hi, List.filter_append, hti, show [L[i]].filter nz = [] by simp [h2], List.append_nil]
    have hlen : (L.take i).length = i := by simp; omega
    obtain ⟨S', e1, e2, e3⟩ := delete_loop L hL (L.length - (i + 1)) (i + 1) L (by omega) rfl (by rw [hti1, hlen]) (fun t _ => rfl)
    rw [hti1, hlen] at e1
    rw [e1]
    simp only [Option.bind_some]
    have hfl : (L.filter nz).length ≤ L.length := List.length_filter_le _ _
    rw [if_pos (by omega), Int.toNat_natCast, if_pos ⟨by omega, by simp only [List.length_append, List.length_take, List.length_replicate]; omega⟩]
    rw [List.take_left' (by rw [List.length_take]; omega), e3]
    rfl
end Go.Proofs.YtB
