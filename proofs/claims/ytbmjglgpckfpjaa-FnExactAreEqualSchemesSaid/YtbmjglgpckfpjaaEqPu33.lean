/- Plain laws: equal schemes, in both forms. -/
import Derived.Test.YtbmjglgpckfpjaaEqPu32
import Derived.Test.YtbmjglgpckfpjaaEqG2
set_option linter.unusedVariables false
set_option linter.unusedSimpArgs false
namespace Go.Proofs.YtB
open Go Go.RowKit Go.Proofs
def likeB (a b : Sch) : Int := if schemeB a && schemeB b then (if a.p = b.p ∧ a.n = b.n ∧ a.m = b.m ∧ a.k = b.k then 0 else 2) else 1
theorem like_tail (a b : Sch) : (if (decide (a.p ≠ b.p)) = true then (some true) else (if (decide (a.n ≠ b.n)) = true then (some true) else (if (decide (a.m ≠ b.m)) = true then (some true) else (some (decide (a.k ≠ b.k)))))).bind (fun (s10 : Bool) => if s10 = true then (some (2 : Int)) else (some (0))) = some (if a.p = b.p ∧ a.n = b.n ∧ a.m = b.m ∧ a.k = b.k then 0 else 2) := by
  by_cases h1 : a.p = b.p <;> by_cases h2 : a.n = b.n <;> by_cases h3 : a.m = b.m <;> by_cases h4 : a.k = b.k <;> simp [h1, h2, h3, h4]
theorem like_s (a b : Sch) (ha : a.ps.length < 9223372036854775807) (hb : b.ps.length < 9223372036854775807) : spec_l03Like a b = some (likeB a b) := by
  unfold spec_l03Like likeB
  rw [(scheme_eq3 a ha).1, (scheme_eq3 b hb).1]
  simp only [Option.bind_some]
  cases schemeB a
  · rfl
  cases schemeB b
  · rfl
  simp only [Bool.not_true, Bool.false_eq_true, if_false, Option.bind_some, Bool.and_self, if_true]
  exact like_tail a b
theorem areSchemes_i (a b : Sch) (ha : a.ps.length < 9223372036854775807) (hb : b.ps.length < 9223372036854775807) : impl_areSchemes [a, b] = some (schemeB a && schemeB b) := by
  unfold impl_areSchemes
  have e0 : impl_areSchemes_l1 [a, b] 0 = if schemeB a then some (.next 1) else some (.ret false) := by
    unfold impl_areSchemes_l1
    simp only [List.length_cons, List.length_nil, show decide ((0 : Int) < ((0 + 1 + 1 : Nat) : Int)) = true from rfl, if_true, show (0 ≤ (0 : Int) ∧ (0 : Int) < ((0 + 1 + 1 : Nat) : Int)) = True by simp, show gl zSch [a, b] 0 = a from rfl, (scheme_eq3 a ha).2, Option.bind_some]
    cases schemeB a <;> rfl
  have e1 : impl_areSchemes_l1 [a, b] 1 = if schemeB b then some (.next 2) else some (.ret false) := by
    unfold impl_areSchemes_l1
    simp only [List.length_cons, List.length_nil, show decide ((1 : Int) < ((0 + 1 + 1 : Nat) : Int)) = true from rfl, if_true, show (0 ≤ (1 : Int) ∧ (1 : Int) < ((0 + 1 + 1 : Nat) : Int)) = True by simp, show gl zSch [a, b] 1 = b from rfl, (scheme_eq3 b hb).2, Option.bind_some]
    cases schemeB b <;> rfl
  have e2 : impl_areSchemes_l1 [a, b] 2 = some (.stop 2) := by
    unfold impl_areSchemes_l1
    rfl
  cases h1 : schemeB a
  · rw [iter_ret (r := false) (by rw [e0, h1]; rfl)]; rfl
  · rw [iter_next (s' := 1) (by rw [e0, h1]; rfl)]
    cases h2 : schemeB b
    · rw [iter_ret (r := false) (by rw [e1, h2]; rfl)]; rfl
    · rw [iter_next (s' := 2) (by rw [e1, h2]; rfl), iter_stop e2]; rfl
theorem pair_i (a b : Sch) (ha : a.ps.length < 9223372036854775807) (hb : b.ps.length < 9223372036854775807) : impl_pairCode a b = some (likeB a b) := by
  unfold impl_pairCode likeB
  rw [areSchemes_i a b ha hb]
  simp only [Option.bind_some]
  cases schemeB a && schemeB b
  · rfl
  simp only [Bool.not_true, Bool.false_eq_true, if_false, if_true]
  exact like_tail a b
theorem likeB_zero {a b : Sch} (h : likeB a b = 0) : schemeB a = true ∧ schemeB b = true := by
  unfold likeB at h
  cases h1 : schemeB a <;> cases h2 : schemeB b <;> simp [h1, h2] at h
  exact ⟨rfl, rfl⟩
theorem equal_i (x y : List Prod) (hx : x.length ≤ 1000) (hy : y.length ≤ 1000) : slices_Equal_46 x y = some (decide (x = y)) := by
  unfold slices_Equal_46
  by_cases hl : x.length = y.length
  · rw [dff (by omega), if_neg (by decide)]
    have h := iter_find (body := fun s => slices_Equal_46_l2 x y s) (fun j => (j : Int)) x.length (fun j => if h : j < x.length ∧ j < y.length then decide (x[j]'h.1 ≠ y[j]'h.2) else false) false (s' := (x.length : Int)) (fun j hj hb => by
      show slices_Equal_46_l2 x y (j : Int) = _
      have hj2 : j < y.length := by omega
      rw [dif_pos ⟨hj, hj2⟩] at hb
      unfold slices_Equal_46_l2
      rw [dtt (by omega), if_pos rfl, if_pos ⟨by omega, by omega⟩, if_pos ⟨by omega, by omega⟩, gl_nat hj, gl_nat hj2, hb, if_neg (by decide), w64s (by omega)]) (fun j hj hb => by
      show slices_Equal_46_l2 x y (j : Int) = _
      have hj2 : j < y.length := by omega
      rw [dif_pos ⟨hj, hj2⟩] at hb
      unfold slices_Equal_46_l2
      rw [dtt (by omega), if_pos rfl, if_pos ⟨by omega, by omega⟩, if_pos ⟨by omega, by omega⟩, gl_nat hj, gl_nat hj2, hb, if_pos rfl]) (by
      show slices_Equal_46_l2 x y (x.length : Int) = _
      unfold slices_Equal_46_l2
      rw [dff (by omega), if_neg (by decide)])
    rw [show ((0 : Nat) : Int) = 0 from rfl] at h
    rw [h]
    by_cases he : x = y
    · subst he
      have : (List.range x.length).all (fun j => !(if h : j < x.length ∧ j < x.length then decide (x[j]'h.1 ≠ x[j]'h.2) else false)) = true := by
        rw [List.all_eq_true]
        intro j _
        split <;> simp
      rw [this]
      simp
    · have : (List.range x.length).all (fun j => !(if h : j < x.length ∧ j < y.length then decide (x[j]'h.1 ≠ y[j]'h.2) else false)) = false := by
        rw [List.all_eq_false]
        refine Classical.byContradiction fun hc => he (List.ext_getElem hl fun j h1 h2 => ?_)
        refine Classical.byContradiction fun hne => hc ⟨j, List.mem_range.2 h1, ?_⟩
        rw [dif_pos ⟨h1, h2⟩]
        simpa using hne
      rw [this, dff he]
      rfl
  · rw [dtt (by omega), if_pos rfl, dff (fun h => hl (by rw [h]))]
theorem eq_from (x y : Sch) (hl : x.ps.length = y.ps.length) (hx : x.ps.length ≤ 1000) : ∀ (d j : Nat), j + d = x.ps.length → ∃ k, iter (fun s : Bool × Int => spec_AreEqualSchemes_l20 x y s.1 s.2) (true, (j : Int)) = some (.stop (decide (x.ps.drop j = y.ps.drop j), k))
  | 0, j, hj => by
    have : j = x.ps.length := by omega
    subst this
    refine ⟨(x.ps.length : Int), ?_⟩
    rw [iter_stop (s' := (true, (x.ps.length : Int))) (by
      show spec_AreEqualSchemes_l20 x y true (x.ps.length : Int) = _
      unfold spec_AreEqualSchemes_l20
      rw [dff (by omega)]
      rfl), List.drop_length, hl, List.drop_length]
    rfl
  | d + 1, j, hj => by
    have h1 : j < x.ps.length := by omega
    have h2 : j < y.ps.length := by omega
    have hb : spec_AreEqualSchemes_l20 x y true (j : Int) = some (.next (decide (x.ps[j] = y.ps[j]), ((j + 1 : Nat) : Int))) := by
      unfold spec_AreEqualSchemes_l20
      rw [dtt (by omega), if_pos rfl]
      simp only [Option.bind_some, if_true]
      rw [if_pos ⟨by omega, by omega⟩, if_pos ⟨by omega, by omega⟩, gl_nat h1, gl_nat h2, w64s (by omega)]
    rw [List.drop_eq_getElem_cons h1, List.drop_eq_getElem_cons h2]
    by_cases he : x.ps[j] = y.ps[j]
    · obtain ⟨k, hk⟩ := eq_from x y hl hx d (j + 1) (by omega)
      refine ⟨k, ?_⟩
      rw [iter_next (s' := (true, ((j + 1 : Nat) : Int))) (by show spec_AreEqualSchemes_l20 x y true (j : Int) = _; rw [hb, dtt he]), hk]
      simp only [List.cons.injEq, he, true_and]
    · refine ⟨((j + 1 : Nat) : Int), ?_⟩
      rw [iter_next (s' := (false, ((j + 1 : Nat) : Int))) (by show spec_AreEqualSchemes_l20 x y true (j : Int) = _; rw [hb, dff he]), iter_stop (s' := (false, ((j + 1 : Nat) : Int))) (by
        show spec_AreEqualSchemes_l20 x y false ((j + 1 : Nat) : Int) = _
        unfold spec_AreEqualSchemes_l20
        cases decide (((j + 1 : Nat) : Int) < (x.ps.length : Int)) <;> rfl)]
      simp only [List.cons.injEq, he, false_and, decide_false]
theorem equal_s (x y : Sch) (hx : x.ps.length ≤ 1000) : ∃ k, iter (fun s : Bool × Int => spec_AreEqualSchemes_l20 x y s.1 s.2) (decide ((x.ps.length : Int) = (y.ps.length : Int)), 0) = some (.stop (decide (x.ps = y.ps), k)) := by
  by_cases hl : x.ps.length = y.ps.length
  · have := eq_from x y hl hx x.ps.length 0 (by omega)
    rw [dtt (by omega)]
    exact this
  · rw [dff (by omega), dff (fun h => hl (by rw [h]))]
    exact ⟨0, iter_stop (by
      show spec_AreEqualSchemes_l20 x y false 0 = _
      unfold spec_AreEqualSchemes_l20
      cases decide ((0 : Int) < (x.ps.length : Int)) <;> rfl)⟩
theorem areEqual_eq (a b : Sch) (ha : a.ps.length ≤ 2097152) (hb : b.ps.length ≤ 2097152) : ∃ g e, spec_AreEqualSchemes a b = some (g, e) ∧ impl_AreEqualSchemes a b = some (g, e) := by
  unfold spec_AreEqualSchemes impl_AreEqualSchemes
  rw [like_s a b (by omega) (by omega), pair_i a b (by omega) (by omega)]
  simp only [Option.bind_some]
  by_cases h0 : likeB a b = 0
  · obtain ⟨s1, s2⟩ := likeB_zero h0
    have h1 := schemeB_is s1
    have h2 := schemeB_is s2
    have l1 := h1.l
    have l2 := h2.l
    rw [h0]
    simp only [ne_eq, not_true_eq_false, decide_false, Bool.false_eq_true, if_false]
    rw [normals_s a h1.p (by omega) h1.G, normals_s b h2.p (by omega) h2.G, normals_i a h1.p (by omega) h1.G, normals_i b h2.p (by omega) h2.G]
    simp only [Option.bind_some]
    rw [sorted_s _ (by simp; omega), sorted_s _ (by simp; omega), sorted_i _ (by simp; omega), sorted_i _ (by simp; omega)]
    simp only [Option.bind_some]
    rw [equal_i _ _ (by rw [srt_len]; simp; omega) (by rw [srt_len]; simp; omega)]
    obtain ⟨k, hk⟩ := equal_s ⟨a.p, a.n, a.m, a.k, srt (a.ps.map (nrm a.p))⟩ ⟨b.p, b.n, b.m, b.k, srt (b.ps.map (nrm b.p))⟩ (by show (srt (a.ps.map (nrm a.p))).length ≤ 1000; rw [srt_len]; simp; omega)
    rw [hk]
    exact ⟨_, _, rfl, rfl⟩
  · rw [dtt h0]
    exact ⟨_, _, rfl, rfl⟩
end Go.Proofs.YtB
