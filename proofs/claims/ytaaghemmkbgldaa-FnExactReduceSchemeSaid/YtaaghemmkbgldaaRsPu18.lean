/- Plain laws: one step of reducing, in both forms; all of them. -/
import Derived.Test.YtaaghemmkbgldaaRsPu17
import Derived.Test.YtaaghemmkbgldaaRsG3
set_option linter.unusedVariables false
set_option linter.unusedSimpArgs false
namespace Go.Proofs.YtB
open Go Go.RowKit Go.Proofs
def wo {α : Type} (L : List α) (k : Nat) : List α := L.take k ++ L.drop (k + 1)
theorem wo_len {α : Type} {L : List α} {k : Nat} (h : k < L.length) : (wo L k).length + 1 = L.length := by unfold wo; simp; omega
theorem wo_mem {α : Type} {L : List α} {k : Nat} {x : α} (h : x ∈ wo L k) : x ∈ L := by
  unfold wo at h
  rcases List.mem_append.1 h with h | h
  · exact List.mem_of_mem_take h
  · exact List.mem_of_mem_drop h
theorem grow_nil {n : Int} (h0 : 0 ≤ n) (h1 : n ≤ 100000) : slices_Grow_180_fnil n = some [] := by
  unfold slices_Grow_180_fnil
  rw [dff (by omega)]
  have e : w64 (n - w64 (0 - (([] : List Prod).length : Int))) = n := by
    simp only [List.length_nil]
    rw [show w64 ((0 : Int) - ((0 : Nat) : Int)) = 0 from rfl, w64_id (by omega) (by omega)]
    omega
  rw [e]
  simp only [Bool.false_eq_true, if_false]
  by_cases h : 0 < n
  · rw [dtt h, if_pos rfl, if_pos ⟨h, by omega⟩, if_pos (by simp; omega)]
    simp
  · rw [dff h, if_neg (by decide)]
theorem concat2 (A B : List Prod) (hA : A.length ≤ 1000) (hB : B.length ≤ 1000) : slices_Concat_171 [A, B] = some (A ++ B) := by
  unfold slices_Concat_171
  have l0 : slices_Concat_171_l1 [A, B] 0 0 = some (.next ((A.length : Int), 1)) := by
    unfold slices_Concat_171_l1
    simp only [List.length_cons, List.length_nil, show decide ((0 : Int) < ((0 + 1 + 1 : Nat) : Int)) = true from rfl, if_true, show (0 ≤ (0 : Int) ∧ (0 : Int) < ((0 + 1 + 1 : Nat) : Int)) = True by simp, show gl [] [A, B] 0 = A from rfl]
    rw [w64_id (by omega) (by omega), dff (by omega), show w64 ((0 : Int) + 1) = 1 from rfl]
    simp
  have l1 : slices_Concat_171_l1 [A, B] (A.length : Int) 1 = some (.next (((A.length : Int) + B.length), 2)) := by
    unfold slices_Concat_171_l1
    simp only [List.length_cons, List.length_nil, show decide ((1 : Int) < ((0 + 1 + 1 : Nat) : Int)) = true from rfl, if_true, show (0 ≤ (1 : Int) ∧ (1 : Int) < ((0 + 1 + 1 : Nat) : Int)) = True by simp, show gl [] [A, B] 1 = B from rfl]
    rw [w64_id (by omega) (by omega), dff (by omega), show w64 ((1 : Int) + 1) = 2 from rfl]
    simp
  have l2 : slices_Concat_171_l1 [A, B] ((A.length : Int) + B.length) 2 = some (.stop (((A.length : Int) + B.length), 2)) := by
    unfold slices_Concat_171_l1
    rfl
  rw [iter_next (body := fun s : Int × Int => slices_Concat_171_l1 [A, B] s.1 s.2) (s' := ((A.length : Int), 1)) l0, iter_next (body := fun s : Int × Int => slices_Concat_171_l1 [A, B] s.1 s.2) (s' := (((A.length : Int) + B.length), 2)) l1, iter_stop (body := fun s : Int × Int => slices_Concat_171_l1 [A, B] s.1 s.2) l2]
  simp only [Option.bind_some]
  rw [grow_nil (by omega) (by omega)]
  simp only [Option.bind_some]
  have m0 : slices_Concat_171_l12 [A, B] 0 [] = some (.next (1, A)) := by
    unfold slices_Concat_171_l12
    simp only [List.length_cons, List.length_nil, show decide ((0 : Int) < ((0 + 1 + 1 : Nat) : Int)) = true from rfl, if_true, show (0 ≤ (0 : Int) ∧ (0 : Int) < ((0 + 1 + 1 : Nat) : Int)) = True by simp, show gl [] [A, B] 0 = A from rfl]
    rw [if_pos (by omega), show w64 ((0 : Int) + 1) = 1 from rfl]
    simp
  have m1 : slices_Concat_171_l12 [A, B] 1 A = some (.next (2, A ++ B)) := by
    unfold slices_Concat_171_l12
    simp only [List.length_cons, List.length_nil, show decide ((1 : Int) < ((0 + 1 + 1 : Nat) : Int)) = true from rfl, if_true, show (0 ≤ (1 : Int) ∧ (1 : Int) < ((0 + 1 + 1 : Nat) : Int)) = True by simp, show gl [] [A, B] 1 = B from rfl]
    rw [if_pos (by omega), show w64 ((1 : Int) + 1) = 2 from rfl]
  have m2 : slices_Concat_171_l12 [A, B] 2 (A ++ B) = some (.stop (2, A ++ B)) := by
    unfold slices_Concat_171_l12
    rfl
  rw [iter_next (body := fun s : Int × List Prod => slices_Concat_171_l12 [A, B] s.1 s.2) (s' := (1, A)) m0, iter_next (body := fun s : Int × List Prod => slices_Concat_171_l12 [A, B] s.1 s.2) (s' := (2, A ++ B)) m1, iter_stop (body := fun s : Int × List Prod => slices_Concat_171_l12 [A, B] s.1 s.2) m2]
  rfl
theorem without_i (L : List Prod) (k : Nat) (hk : k < L.length) (hL : L.length ≤ 1000) : impl_withoutAt L (k : Int) = some (wo L k) := by
  unfold impl_withoutAt
  rw [if_pos ⟨by omega, by omega⟩, w64s (by omega), if_pos ⟨by omega, by omega⟩]
  simp only [Int.toNat_natCast, List.take_length]
  rw [show (0 : Int).toNat = 0 from rfl, List.drop_zero, concat2 _ _ (by simp; omega) (by simp; omega)]
  rfl
/-- what a step at i, k leaves, m being what the two make -/
noncomputable def R (p : Int) (L : List Prod) (i k : Nat) (m : Prod) : List Prod := if nz m then (wo L k).set i (nrm p m) else wo (wo L k) i
theorem map_nrm {p : Int} {L : List Prod} (hp : pr p) (h : ∀ q ∈ L, Nq p q) : L.map (nrm p) = L := by
  have : L.map (nrm p) = L.map id := List.map_congr_left fun q hq => nrm_id hp (h q hq)
  rw [this, List.map_id]
theorem set_split {α : Type} (L : List α) (i : Nat) (x : α) (h : i < L.length) : L.set i x = L.take i ++ x :: L.drop (i + 1) := by
  rw [List.set_eq_take_append_cons_drop, if_pos h]
theorem gl_mem' {L : List Prod} {i : Nat} (h : i < L.length) : gl zProd L (i : Int) ∈ L := gl_mem ⟨by omega, by omega⟩
/-- the reference's way to the same -/
theorem R_spec {p : Int} {L : List Prod} (hp : pr p) (hN : ∀ q ∈ L, Nq p q) {i k : Nat} (hik : i < k) (hk : k < L.length) {m : Prod} (hm : (∀ j, (hj : j < 9) → ((m.1[j].toNat : Nat) : Int) < p) ∧ (∀ j, (hj : j < 9) → ((m.2.1[j].toNat : Nat) : Int) < p) ∧ (∀ j, (hj : j < 9) → ((m.2.2[j].toNat : Nat) : Int) < p)) :
    (∀ q ∈ ((wo L k).set i m).filter nz, Gq p q) ∧ (((wo L k).set i m).filter nz).map (nrm p) = R p L i k m ∧ (R p L i k m).length < L.length ∧ ∀ q ∈ R p L i k m, Nq p q := by
  have hw := wo_len hk
  have hNw : ∀ q ∈ wo L k, Nq p q := fun q hq => hN q (wo_mem hq)
  have hG : ∀ q ∈ ((wo L k).set i m).filter nz, Gq p q := by
    intro q hq
    obtain ⟨h1, h2⟩ := List.mem_filter.1 hq
    rcases List.mem_or_eq_of_mem_set h1 with h | rfl
    · exact (hNw q h).toGq
    · exact ⟨h2, hm.1, hm.2.1, hm.2.2⟩
  have hil : i < (wo L k).length := by omega
  have hT : (wo L k).take i ++ (wo L k).drop (i + 1) = wo (wo L k) i := rfl
  have hww : ∀ q ∈ wo (wo L k) i, Nq p q := fun q hq => hNw q (wo_mem hq)
  have hf : ∀ l : List Prod, (∀ q ∈ l, Nq p q) → l.filter nz = l := fun l h => List.filter_eq_self.2 fun q hq => (h q hq).nz
  cases hz : nz m
  · have e : ((wo L k).set i m).filter nz = wo (wo L k) i := by
      rw [set_split _ _ _ hil, List.filter_append, List.filter_cons_of_neg (by rw [hz]; decide), hf _ (fun q hq => hNw q (List.mem_of_mem_take hq)), hf _ (fun q hq => hNw q (List.mem_of_mem_drop hq))]
      rfl
    have hR : R p L i k m = wo (wo L k) i := by unfold R; rw [hz]; rfl
    refine ⟨hG, ?_, ?_, ?_⟩
    · rw [e, hR, map_nrm hp hww]
    · rw [hR]; have := wo_len hil; omega
    · rw [hR]; exact hww
  · have hgm : Gq p m := ⟨hz, hm.1, hm.2.1, hm.2.2⟩
    have hR : R p L i k m = (wo L k).set i (nrm p m) := by unfold R; rw [hz]; rfl
    have e : ((wo L k).set i m).filter nz = (wo L k).set i m := by
      refine List.filter_eq_self.2 fun q hq => ?_
      rcases List.mem_or_eq_of_mem_set hq with h | rfl
      · exact (hNw q h).nz
      · exact hz
    refine ⟨hG, ?_, ?_, ?_⟩
    · rw [e, hR, List.map_set, map_nrm hp hNw]
    · rw [hR, List.length_set]; omega
    · rw [hR]
      intro q hq
      rcases List.mem_or_eq_of_mem_set hq with h | rfl
      · exact hNw q h
      · exact nrm_Nq hp hgm
/-- one step's inner loop -/
theorem step_in (a : Sch) (hp : pr a.p) (hL : a.ps.length ≤ 60) (hN : ∀ q ∈ a.ps, Nq a.p q) (i : Nat) (hi : i < a.ps.length) : ∀ (d k : Nat), k + d = a.ps.length → i < k →
    (iter (fun s => impl_reduceOnce_l6 a.p a.ps (i : Int) s) (k : Int) = some (.stop (a.ps.length : Int)) ∧ iter (fun s => spec_l03Step_l4 a (i : Int) s) (k : Int) = some (.stop (a.ps.length : Int))) ∨
    ∃ L' : List Prod, iter (fun s => impl_reduceOnce_l6 a.p a.ps (i : Int) s) (k : Int) = some (.ret (L', true)) ∧ iter (fun s => spec_l03Step_l4 a (i : Int) s) (k : Int) = some (.ret (⟨a.p, a.n, a.m, a.k, L'⟩, true)) ∧ L'.length < a.ps.length ∧ ∀ q ∈ L', Nq a.p q
  | 0, k, hk, hik => by
    left
    have : k = a.ps.length := by omega
    subst this
    constructor
    · refine iter_stop ?_
      show impl_reduceOnce_l6 a.p a.ps (i : Int) (a.ps.length : Int) = _
      unfold impl_reduceOnce_l6
      rw [dff (by omega), if_neg (by decide)]
    · refine iter_stop ?_
      show spec_l03Step_l4 a (i : Int) (a.ps.length : Int) = _
      unfold spec_l03Step_l4
      rw [dff (by omega), if_neg (by decide)]
  | d + 1, k, hk, hik => by
    have hkl : k < a.ps.length := by omega
    have gi := hN _ (gl_mem' hi)
    have gk := hN _ (gl_mem' hkl)
    have mi := merged_i hp gi.toGq gk.toGq
    have ms := merged_s hp gi.toGq gk.toGq
    cases hm : (mg a.p (gl zProd a.ps i) (gl zProd a.ps k)).2
    · have ih := step_in a hp hL hN i hi d (k + 1) (by omega) (by omega)
      have e1 : impl_reduceOnce_l6 a.p a.ps (i : Int) (k : Int) = some (.next ((k + 1 : Nat) : Int)) := by
        unfold impl_reduceOnce_l6
        simp only [dtt (show (k : Int) < a.ps.length by omega), if_true, if_pos (show 0 ≤ (k : Int) ∧ (k : Int) < a.ps.length by omega), mi, Option.bind_some, hm, Bool.not_false]
        rw [w64s (by omega)]
      have e2 : spec_l03Step_l4 a (i : Int) (k : Int) = some (.next ((k + 1 : Nat) : Int)) := by
        unfold spec_l03Step_l4
        simp only [dtt (show (k : Int) < a.ps.length by omega), if_true, if_pos (show 0 ≤ (k : Int) ∧ (k : Int) < a.ps.length by omega), if_pos (show 0 ≤ (i : Int) ∧ (i : Int) < a.ps.length by omega), ms, Option.bind_some, hm, Bool.not_false]
        rw [w64s (by omega)]
      rw [iter_next (body := fun s => impl_reduceOnce_l6 a.p a.ps (i : Int) s) e1, iter_next (body := fun s => spec_l03Step_l4 a (i : Int) s) e2]
      exact ih
    · right
      have hml := mg_lt hp gi.toGq hm
      obtain ⟨r1, r2, r3, r4⟩ := R_spec hp hN hik hkl hml
      have hw := wo_len hkl
      refine ⟨R a.p a.ps i k (mg a.p (gl zProd a.ps i) (gl zProd a.ps k)).1, iter_ret ?_, iter_ret ?_, r3, r4⟩
      · show impl_reduceOnce_l6 a.p a.ps (i : Int) (k : Int) = _
        unfold impl_reduceOnce_l6
        simp only [dtt (show (k : Int) < a.ps.length by omega), if_true, if_pos (show 0 ≤ (k : Int) ∧ (k : Int) < a.ps.length by omega), mi, Option.bind_some, hm, Bool.not_true, Bool.false_eq_true, if_false, without_i a.ps k hkl (by omega), hasZero_eq]
        unfold R
        cases hz : nz (mg a.p (gl zProd a.ps i) (gl zProd a.ps k)).1
        · simp only [Bool.not_false, if_true, without_i (wo a.ps k) i (by omega) (by omega), Option.bind_some, Bool.false_eq_true, if_false]
        · simp only [Bool.not_true, Bool.false_eq_true, if_false, if_true, normal_i hp ⟨hz, hml.1, hml.2.1, hml.2.2⟩, Option.bind_some, if_pos (show 0 ≤ (i : Int) ∧ (i : Int) < ((wo a.ps k).length : Int) by omega), Int.toNat_natCast]
      · show spec_l03Step_l4 a (i : Int) (k : Int) = _
        unfold spec_l03Step_l4
        have e0 : ([] : List Prod) ++ ((a.ps.take ((k : Int)).toNat).drop (0 : Int).toNat) ++ ((a.ps.take (a.ps.length : Int).toNat).drop (w64 ((k : Int) + 1)).toNat) = wo a.ps k := by
          rw [w64s (by omega)]
          simp only [Int.toNat_natCast, List.take_length, List.nil_append]
          rfl
        simp only [dtt (show (k : Int) < a.ps.length by omega), if_true, if_pos (show 0 ≤ (k : Int) ∧ (k : Int) < a.ps.length by omega), if_pos (show 0 ≤ (i : Int) ∧ (i : Int) < a.ps.length by omega), ms, Option.bind_some, hm, Bool.not_true, Bool.false_eq_true, if_false, if_pos (show (0 : Int) ≤ (k : Int) ∧ (k : Int) ≤ a.ps.length by omega)]
        rw [if_pos (by simp; omega), if_pos (by rw [w64s (by omega)]; omega), if_pos (by simp; omega), e0, if_pos ⟨by omega, by omega⟩, told_eq _ _ (by rw [List.length_set]; omega)]
        simp only [Option.bind_some, Int.toNat_natCast]
        rw [normals_s ⟨a.p, a.n, a.m, a.k, ((wo a.ps k).set i (mg a.p (gl zProd a.ps i) (gl zProd a.ps k)).1).filter nz⟩ hp (Nat.le_trans (List.length_filter_le _ _) (by rw [List.length_set]; omega)) r1]
        simp only [Option.bind_some]
        rw [r2]
/-- one step -/
theorem step_eq (a : Sch) (hp : pr a.p) (hL : a.ps.length ≤ 60) (hN : ∀ q ∈ a.ps, Nq a.p q) :
    (impl_reduceOnce a.p a.ps = some (a.ps, false) ∧ spec_l03Step a = some (a, false)) ∨ ∃ L' : List Prod, impl_reduceOnce a.p a.ps = some (L', true) ∧ spec_l03Step a = some (⟨a.p, a.n, a.m, a.k, L'⟩, true) ∧ L'.length < a.ps.length ∧ ∀ q ∈ L', Nq a.p q := by
  have key : ∀ (d i : Nat), i + d = a.ps.length →
      (iter (fun s => impl_reduceOnce_l1 a.p a.ps s) (i : Int) = some (.stop (a.ps.length : Int)) ∧ iter (fun s => spec_l03Step_l1 a s) (i : Int) = some (.stop (a.ps.length : Int))) ∨
      ∃ L' : List Prod, iter (fun s => impl_reduceOnce_l1 a.p a.ps s) (i : Int) = some (.ret (L', true)) ∧ iter (fun s => spec_l03Step_l1 a s) (i : Int) = some (.ret (⟨a.p, a.n, a.m, a.k, L'⟩, true)) ∧ L'.length < a.ps.length ∧ ∀ q ∈ L', Nq a.p q := by
    intro d
    induction d with
    | zero =>
      intro i hi
      left
      have : i = a.ps.length := by omega
      subst this
      constructor
      · refine iter_stop ?_
        show impl_reduceOnce_l1 a.p a.ps (a.ps.length : Int) = _
        unfold impl_reduceOnce_l1
        rw [dff (by omega), if_neg (by decide)]
      · refine iter_stop ?_
        show spec_l03Step_l1 a (a.ps.length : Int) = _
        unfold spec_l03Step_l1
        rw [dff (by omega), if_neg (by decide)]
    | succ d ih =>
      intro i hi
      have hil : i < a.ps.length := by omega
      rcases step_in a hp hL hN i hil d (i + 1) (by omega) (by omega) with ⟨h1, h2⟩ | ⟨L', h1, h2, h3, h4⟩
      · have e1 : impl_reduceOnce_l1 a.p a.ps (i : Int) = some (.next ((i + 1 : Nat) : Int)) := by
          unfold impl_reduceOnce_l1
          simp only [dtt (show (i : Int) < a.ps.length by omega), if_true, if_pos (show 0 ≤ (i : Int) ∧ (i : Int) < a.ps.length by omega)]
          rw [w64s (by omega), h1]
          rfl
        have e2 : spec_l03Step_l1 a (i : Int) = some (.next ((i + 1 : Nat) : Int)) := by
          unfold spec_l03Step_l1
          simp only [dtt (show (i : Int) < a.ps.length by omega), if_true]
          rw [w64s (by omega), h2]
          rfl
        rw [iter_next (body := fun s => impl_reduceOnce_l1 a.p a.ps s) e1, iter_next (body := fun s => spec_l03Step_l1 a s) e2]
        exact ih (i + 1) (by omega)
      · right
        refine ⟨L', iter_ret ?_, iter_ret ?_, h3, h4⟩
        · show impl_reduceOnce_l1 a.p a.ps (i : Int) = _
          unfold impl_reduceOnce_l1
          simp only [dtt (show (i : Int) < a.ps.length by omega), if_true, if_pos (show 0 ≤ (i : Int) ∧ (i : Int) < a.ps.length by omega)]
          rw [w64s (by omega), h1]
          rfl
        · show spec_l03Step_l1 a (i : Int) = _
          unfold spec_l03Step_l1
          simp only [dtt (show (i : Int) < a.ps.length by omega), if_true]
          rw [w64s (by omega), h2]
          rfl
  unfold impl_reduceOnce spec_l03Step
  rcases key a.ps.length 0 (by omega) with ⟨h1, h2⟩ | ⟨L', h1, h2, h3, h4⟩
  · left
    rw [show ((0 : Nat) : Int) = 0 from rfl] at h1 h2
    rw [h1, h2]
    exact ⟨rfl, rfl⟩
  · right
    rw [show ((0 : Nat) : Int) = 0 from rfl] at h1 h2
    rw [h1, h2]
    exact ⟨L', rfl, rfl, h3, h4⟩
/-- all steps -/
theorem steps_eq {p n m k : Int} (b : Sch) (hb : b.p = p) (hp : pr p) : ∀ (N : Nat) (L : List Prod), L.length ≤ N → N ≤ 60 → (∀ q ∈ L, Nq p q) →
    ∃ L' : List Prod, iter (fun s : Bool × List Prod => impl_ReduceScheme_l8 b s.1 s.2) (true, L) = some (.stop (false, L')) ∧ iter (fun s : Bool × (List Prod) × Int × Int × Int × Int => spec_l03Reduce_l5 s.1 s.2.1 s.2.2.1 s.2.2.2.1 s.2.2.2.2.1 s.2.2.2.2.2) (true, L, p, n, m, k) = some (.stop (false, L', p, n, m, k)) ∧ L'.length ≤ 60 := by
  have fin : ∀ L : List Prod, L.length ≤ 60 → ∃ L' : List Prod, iter (fun s : Bool × List Prod => impl_ReduceScheme_l8 b s.1 s.2) (false, L) = some (.stop (false, L')) ∧ iter (fun s : Bool × (List Prod) × Int × Int × Int × Int => spec_l03Reduce_l5 s.1 s.2.1 s.2.2.1 s.2.2.2.1 s.2.2.2.2.1 s.2.2.2.2.2) (false, L, p, n, m, k) = some (.stop (false, L', p, n, m, k)) ∧ L'.length ≤ 60 := by
    intro L hL
    exact ⟨L, iter_stop rfl, iter_stop rfl, hL⟩
  intro N
  induction N with
  | zero =>
    intro L hL _ hN
    have : L = [] := List.eq_nil_of_length_eq_zero (by omega)
    subst this
    rcases step_eq ⟨p, n, m, k, []⟩ hp (by simp) (by simp) with ⟨h1, h2⟩ | ⟨L', _, _, h3, _⟩
    · have e1 : impl_ReduceScheme_l8 b true [] = some (.next (false, [])) := by
        unfold impl_ReduceScheme_l8
        rw [hb]
        simp only [if_true]
        rw [show impl_reduceOnce p [] = some ([], false) from h1]
        rfl
      have e2 : spec_l03Reduce_l5 true [] p n m k = some (.next (false, [], p, n, m, k)) := by
        unfold spec_l03Reduce_l5
        simp only [if_true]
        rw [h2]
        rfl
      rw [iter_next (body := fun s : Bool × List Prod => impl_ReduceScheme_l8 b s.1 s.2) e1, iter_next (body := fun s : Bool × (List Prod) × Int × Int × Int × Int => spec_l03Reduce_l5 s.1 s.2.1 s.2.2.1 s.2.2.2.1 s.2.2.2.2.1 s.2.2.2.2.2) e2]
      exact fin [] (by simp)
    · simp at h3
  | succ N ih =>
    intro L hL hN60 hN
    rcases step_eq ⟨p, n, m, k, L⟩ hp (show L.length ≤ 60 by omega) hN with ⟨h1, h2⟩ | ⟨L', h1, h2, h3, h4⟩
    · have e1 : impl_ReduceScheme_l8 b true L = some (.next (false, L)) := by
        unfold impl_ReduceScheme_l8
        rw [hb]
        simp only [if_true]
        rw [show impl_reduceOnce p L = some (L, false) from h1]
        rfl
      have e2 : spec_l03Reduce_l5 true L p n m k = some (.next (false, L, p, n, m, k)) := by
        unfold spec_l03Reduce_l5
        simp only [if_true]
        rw [h2]
        rfl
      rw [iter_next (body := fun s : Bool × List Prod => impl_ReduceScheme_l8 b s.1 s.2) e1, iter_next (body := fun s : Bool × (List Prod) × Int × Int × Int × Int => spec_l03Reduce_l5 s.1 s.2.1 s.2.2.1 s.2.2.2.1 s.2.2.2.2.1 s.2.2.2.2.2) e2]
      exact fin L (by omega)
    · have h3' : L'.length < L.length := h3
      have e1 : impl_ReduceScheme_l8 b true L = some (.next (true, L')) := by
        unfold impl_ReduceScheme_l8
        rw [hb]
        simp only [if_true]
        rw [show impl_reduceOnce p L = some (L', true) from h1]
        rfl
      have e2 : spec_l03Reduce_l5 true L p n m k = some (.next (true, L', p, n, m, k)) := by
        unfold spec_l03Reduce_l5
        simp only [if_true]
        rw [h2]
        rfl
      rw [iter_next (body := fun s : Bool × List Prod => impl_ReduceScheme_l8 b s.1 s.2) e1, iter_next (body := fun s : Bool × (List Prod) × Int × Int × Int × Int => spec_l03Reduce_l5 s.1 s.2.1 s.2.2.1 s.2.2.2.1 s.2.2.2.2.1 s.2.2.2.2.2) e2]
      exact ih L' (by omega) (by omega) h4
theorem IsSch.G {a : Sch} (h : IsSch a) : ∀ q ∈ a.ps, Gq a.p q := fun q hq => ⟨h.nz hq, (h.lt hq).1, (h.lt hq).2.1, (h.lt hq).2.2⟩
theorem reduce_eq (a : Sch) (ha : a.ps.length ≤ 2097152) : ∃ g e, spec_ReduceScheme a = some (g, e) ∧ impl_ReduceScheme a = some (g, e) ∧ g.ps.length ≤ 60 := by
  obtain ⟨sx, ix⟩ := scheme_eq3 a (by omega)
  unfold spec_ReduceScheme impl_ReduceScheme
  rw [sx, ix]
  simp only [Option.bind_some]
  cases hS : schemeB a
  · exact ⟨_, _, rfl, rfl, by simp⟩
  have is := schemeB_is hS
  have hl := is.l
  simp only [Bool.not_true, Bool.false_eq_true, if_false]
  unfold spec_l03Reduce
  rw [normals_s a is.p (by omega) is.G, normals_i a is.p (by omega) is.G]
  simp only [Option.bind_some]
  obtain ⟨L', h1, h2, h3⟩ := steps_eq (n := a.n) (m := a.m) (k := a.k) a rfl is.p 60 (a.ps.map (nrm a.p)) (by rw [List.length_map]; omega) (by omega) (fun q hq => by
    obtain ⟨r, hr, rfl⟩ := List.mem_map.1 hq
    exact nrm_Nq is.p (is.G r hr))
  rw [h1, h2]
  exact ⟨_, _, rfl, rfl, by show L'.length ≤ 60; omega⟩
end Go.Proofs.YtB
