/- Plain laws: sorted schemes, in both forms. -/
import Derived.Test.YtbhaeajdabgnhaaAePu30
import Derived.Test.YtbhaeajdabgnhaaAeG3
import Derived.Test.YtbhaeajdabgnhaaAeG2
set_option linter.unusedVariables false
set_option linter.unusedSimpArgs false
namespace Go.Proofs.YtB
open Go Go.RowKit Go.Proofs
def leP (x y : Prod) : Bool := !(lx (key y) (key x))
def ins (x : Prod) : List Prod → List Prod
  | [] => [x]
  | y :: L => if lx (key x) (key y) then x :: y :: L else y :: ins x L
def pos (x : Prod) (L : List Prod) : Nat := (L.takeWhile fun y => !(lx (key x) (key y))).length
theorem pos_le (x : Prod) : ∀ L, pos x L ≤ L.length
  | [] => Nat.le_refl _
  | y :: L => by
    have := pos_le x L
    unfold pos at this ⊢
    rw [List.takeWhile_cons]
    split
    · simp only [List.length_cons]; omega
    · simp
theorem ins_at (x : Prod) : ∀ L, L.take (pos x L) ++ x :: L.drop (pos x L) = ins x L
  | [] => rfl
  | y :: L => by
    have ih := ins_at x L
    unfold pos at ih ⊢
    unfold ins
    rw [List.takeWhile_cons]
    cases h : lx (key x) (key y)
    · simp only [Bool.not_false, if_true, List.length_cons, List.take_succ_cons, List.drop_succ_cons, List.cons_append, Bool.false_eq_true, if_false]
      rw [ih]
    · simp
theorem ins_perm (x : Prod) : ∀ L, (ins x L).Perm (x :: L)
  | [] => List.Perm.refl _
  | y :: L => by
    unfold ins
    split
    · exact List.Perm.refl _
    · exact ((ins_perm x L).cons y).trans (List.Perm.swap x y L)
theorem leP_trans (a b c : Prod) (h1 : leP a b = true) (h2 : leP b c = true) : leP a c = true := by
  unfold leP at *
  simp only [Bool.not_eq_true'] at *
  exact lx_ntrans (by rw [key_len, key_len]) (by rw [key_len, key_len]) h2 h1
theorem leP_total (a b : Prod) : (leP a b || leP b a) = true := by
  unfold leP
  cases h : lx (key b) (key a)
  · rfl
  · rw [lx_asym h]; rfl
theorem leP_anti (a b : Prod) (h1 : leP a b = true) (h2 : leP b a = true) : a = b := by
  unfold leP at *
  simp only [Bool.not_eq_true'] at *
  exact key_inj (lx_tot (by rw [key_len, key_len]) h2 h1)
theorem ins_sorted (x : Prod) : ∀ {L}, L.Pairwise (fun a b => leP a b = true) → (ins x L).Pairwise (fun a b => leP a b = true)
  | [], _ => List.pairwise_singleton _ _
  | y :: L, h => by
    have h' := List.pairwise_cons.1 h
    unfold ins
    cases hx : lx (key x) (key y)
    · simp only [Bool.false_eq_true, if_false]
      refine List.pairwise_cons.2 ⟨fun z hz => ?_, ins_sorted x h'.2⟩
      rcases List.mem_cons.1 ((ins_perm x L).mem_iff.1 hz) with rfl | hz
      · unfold leP; rw [hx]; rfl
      · exact h'.1 z hz
    · simp only [if_true]
      have hxy : leP x y = true := by unfold leP; rw [lx_asym hx]; rfl
      refine List.pairwise_cons.2 ⟨fun z hz => ?_, h⟩
      rcases List.mem_cons.1 hz with rfl | hz
      · exact hxy
      · exact leP_trans _ _ _ hxy (h'.1 z hz)
def insAll (L o : List Prod) : List Prod := L.foldl (fun o x => ins x o) o
theorem insAll_ok : ∀ (L o : List Prod), o.Pairwise (fun a b => leP a b = true) → (insAll L o).Pairwise (fun a b => leP a b = true) ∧ (insAll L o).Perm (L ++ o)
  | [], o, h => ⟨h, List.Perm.refl _⟩
  | x :: L, o, h => by
    have ih := insAll_ok L (ins x o) (ins_sorted x h)
    refine ⟨ih.1, ih.2.trans ?_⟩
    exact ((ins_perm x o).append_left L).trans List.perm_middle
def srt (L : List Prod) : List Prod := L.mergeSort leP
theorem insAll_srt (L : List Prod) : insAll L [] = srt L := by
  have h := insAll_ok L [] List.Pairwise.nil
  rw [List.append_nil] at h
  exact List.Perm.eq_of_pairwise (le := fun a b => leP a b = true) (fun a b _ _ => leP_anti a b) h.1 (List.pairwise_mergeSort leP_trans leP_total L) (h.2.trans (List.mergeSort_perm L leP).symm)
theorem srt_len (L : List Prod) : (srt L).length = L.length := List.length_mergeSort _
theorem sorted_i (a : Sch) (ha : a.ps.length ≤ 1000) : impl_sorted a = some ⟨a.p, a.n, a.m, a.k, srt a.ps⟩ := by
  unfold impl_sorted slices_Clone_180 slices_SortFunc_181_f182 sortBy
  rw [if_pos (by simp; omega)]
  simp only [Option.bind_some, List.nil_append]
  rw [if_pos ⟨cmp_good, by omega⟩]
  simp only [Option.bind_some]
  unfold impl_with
  simp only [Option.bind_some]
  have e : (fun x y => !(ltOf (cfOf impl_compareProducts) y x)) = leP := by
    funext x y
    rw [lt_prods]
    rfl
  rw [e]
  rfl
theorem at_s (a : Sch) {i : Nat} (hi : i < a.ps.length) (hl : a.ps.length ≤ 1000) (L : List Prod) (hL : L.length ≤ 1000) : ∀ (d j : Nat), j + d = L.length → iter (fun s => spec_l01Sorted_l10 a (i : Int) L s) (j : Int) = some (.stop ((j + pos a.ps[i] (L.drop j) : Nat) : Int))
  | 0, j, hj => by
    have : j = L.length := by omega
    subst this
    rw [iter_stop (s' := (L.length : Int)) (by
      unfold spec_l01Sorted_l10
      rw [dff (by omega)]
      rfl), List.drop_length]
    rfl
  | d + 1, j, hj => by
    have hjl : j < L.length := by omega
    have hb : spec_l01Sorted_l10 a (i : Int) L (j : Int) = if lx (key a.ps[i]) (key L[j]) = true then some (.stop (j : Int)) else some (.next ((j + 1 : Nat) : Int)) := by
      unfold spec_l01Sorted_l10
      rw [dtt (by omega), if_pos rfl, if_pos ⟨by omega, by omega⟩, if_pos ⟨by omega, by omega⟩, gl_nat hi, gl_nat hjl, less_s, w64s (by omega)]
      simp only [Option.bind_some]
      cases lx (key a.ps[i]) (key L[j]) <;> rfl
    rw [List.drop_eq_getElem_cons hjl]
    unfold pos
    rw [List.takeWhile_cons]
    cases h : lx (key a.ps[i]) (key L[j])
    · rw [iter_next (s' := ((j + 1 : Nat) : Int)) (by rw [hb, h]; rfl), at_s a hi hl L hL d (j + 1) (by omega)]
      simp only [Bool.not_false, if_true, List.length_cons]
      unfold pos
      congr 3
      omega
    · rw [iter_stop (s' := (j : Int)) (by rw [hb, h]; rfl)]
      rfl
theorem sorted_s (a : Sch) (ha : a.ps.length ≤ 1000) : spec_l01Sorted a = some ⟨a.p, a.n, a.m, a.k, srt a.ps⟩ := by
  unfold spec_l01Sorted spec_l01Empty
  simp only [Option.bind_some]
  have hlen : ∀ j, j ≤ a.ps.length → (insAll (a.ps.take j) []).length = j := fun j hj => by
    have := (insAll_ok (a.ps.take j) [] List.Pairwise.nil).2.length_eq
    rw [this]
    simp
    omega
  have h := iter_up (body := fun s : Int × List Prod => spec_l01Sorted_l5 a s.1 s.2) (fun j => ((j : Int), insAll (a.ps.take j) [])) a.ps.length (s' := ((a.ps.length : Int), srt a.ps)) (fun j hj => by
    show spec_l01Sorted_l5 a (j : Int) (insAll (a.ps.take j) []) = _
    have hl := hlen j (by omega)
    have es : insAll (a.ps.take (j + 1)) [] = ins a.ps[j] (insAll (a.ps.take j) []) := by
      unfold insAll
      rw [← List.take_append_getElem hj, List.foldl_append]
      rfl
    rw [es]
    generalize insAll (a.ps.take j) [] = L at hl ⊢
    unfold spec_l01Sorted_l5
    have hat := at_s a hj (by omega) L (by omega) L.length 0 (by omega)
    rw [show ((0 : Nat) : Int) = 0 from rfl, List.drop_zero, Nat.zero_add] at hat
    have hp := pos_le a.ps[j] L
    rw [dtt (by omega), if_pos rfl, hat]
    simp only [Option.bind_some]
    rw [if_pos ⟨by omega, by omega⟩, if_pos ⟨by omega, by omega⟩, gl_nat hj]
    simp only [Int.toNat_natCast, List.take_length, show (0 : Int).toNat = 0 from rfl, List.drop_zero, List.nil_append, List.length_append, List.length_singleton, List.length_drop, List.length_take, List.length_nil]
    rw [if_pos (by omega), if_pos ⟨by omega, by omega⟩, if_pos (by omega), if_pos (by omega), w64s (by omega), List.singleton_append, ins_at]) (by
    show spec_l01Sorted_l5 a (a.ps.length : Int) (insAll (a.ps.take a.ps.length) []) = _
    unfold spec_l01Sorted_l5
    rw [dff (by omega), if_neg (by decide), List.take_length, insAll_srt])
  have h0 : (((0 : Nat) : Int), insAll (a.ps.take 0) []) = ((0 : Int), ([] : List Prod)) := by simp [insAll]
  rw [h0] at h
  rw [h]
  rfl
end Go.Proofs.YtB
