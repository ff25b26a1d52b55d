/- Plain laws: a flip's two forms are the same. -/
import Derived.Test.YtaaghemmkbgldaaWfPu9
import Derived.Test.YtaaghemmkbgldaaWfG2
import Derived.Test.YtaaghemmkbgldaaWfG1
set_option linter.unusedVariables false
set_option linter.unusedSimpArgs false
namespace Go.Proofs.YtB
open Go Go.RowKit Go.Proofs

theorem in3_0 : (0 ≤ (0 : Int) ∧ (0 : Int) < 3) = True := by decide
theorem in3_1 : (0 ≤ (1 : Int) ∧ (1 : Int) < 3) = True := by decide
theorem in3_2 : (0 ≤ (2 : Int) ∧ (2 : Int) < 3) = True := by decide
theorem clone2_eq (L : List Prod) (h : L.length ≤ 1000) : slices_Clone_76 L = some L := clone_eq L h
theorem addF_neg (p : Int) (f g : Form) (s : Int) : addF p f g (p - s) = addF p f g (-s) := addF_shift p f g (-s)
theorem flip_eq (a : Sch) (i k f s : Int) (hp : 0 < a.p ∧ a.p ≤ 5) (hl : a.ps.length ≤ 60) (hi : 0 ≤ i ∧ i < (a.ps.length : Int)) (hk : 0 ≤ k ∧ k < (a.ps.length : Int)) (hf : 0 ≤ f ∧ f ≤ 2) (hs : 0 ≤ s ∧ s ≤ a.p) :
    ∃ L : List Prod, spec_l03Flip a i k f s = some ⟨a.p, a.n, a.m, a.k, L⟩ ∧ impl_flip a i k f s = some ⟨a.p, a.n, a.m, a.k, L⟩ ∧ L.length ≤ a.ps.length ∧ ∀ q ∈ L, nz q = true := by
  unfold spec_l03Flip impl_flip
  rw [clone_eq _ (by omega)]
  simp only [Option.bind_some, List.nil_append]
  simp only [if_pos hi, if_pos hk]
  rw [if_pos (by simp only [List.length_nil]; omega)]
  have e1 : w64 (a.p - s) = a.p - s := w64_id (by omega) (by omega)
  have e2 : w64 (0 - s) = -s := by rw [w64_id (by omega) (by omega)]; omega
  rw [e1, e2]
  unfold impl_factors impl_productOf impl_with
  simp only [Option.bind_some]
  generalize hq : gl zProd a.ps i = q
  generalize hr : gl zProd a.ps k = r
  have hmk : ∀ (A B : Prod), (0 ≤ k ∧ k < (((a.ps).set i.toNat A).length : Int)) := fun A B => ⟨hk.1, by rw [List.length_set]; exact hk.2⟩
  have fin : ∀ A B : Prod, (((a.ps).set i.toNat A).set k.toNat B).length ≤ 1000 := fun A B => by simp only [List.length_set]; omega
  have fin2 : ∀ A B : Prod, ((((a.ps).set i.toNat A).set k.toNat B).filter nz).length ≤ a.ps.length := fun A B => Nat.le_trans (List.length_filter_le _ _) (by simp only [List.length_set]; omega)
  have hf3 : f = 0 ∨ f = 1 ∨ f = 2 := by omega
  rcases hf3 with rfl | rfl | rfl
  · rw [show (w64 ((0 : Int) + 1)).tmod 3 = 1 from rfl, show (w64 ((0 : Int) + 2)).tmod 3 = 2 from rfl]
    simp only [in3_0, in3_1, in3_2, if_true]
    rw [show spec_l03Factor q 1 = some q.2.1 from rfl, show spec_l03Factor r 1 = some r.2.1 from rfl, show spec_l03Factor q 2 = some q.2.2 from rfl, show spec_l03Factor r 2 = some r.2.2 from rfl]
    simp only [Option.bind_some]
    rw [show vg zForm (#v[q.1, q.2.1, q.2.2] : Forms) 1 = q.2.1 from rfl, show vg zForm (#v[r.1, r.2.1, r.2.2] : Forms) 1 = r.2.1 from rfl, show vg zForm (#v[r.1, r.2.1, r.2.2] : Forms) 2 = r.2.2 from rfl]
    rw [spec_add_eq _ _ hp.1 (by omega) (by omega) (by omega), spec_add_eq _ _ hp.1 (by omega) (by omega) (by omega), sum_eq _ _ hp.1 (by omega) (by omega) (by omega)]
    simp only [Option.bind_some]
    rw [show ∀ X, vg zForm (vs (#v[q.1, q.2.1, q.2.2] : Forms) 1 X) 2 = q.2.2 from fun _ => rfl]
    rw [sum_eq _ _ hp.1 (by omega) (by omega) (by omega), addF_neg]
    simp only [Option.bind_some]
    rw [show ∀ X, spec_l03With q 1 X = some (q.1, X, q.2.2) from fun _ => rfl, show ∀ X, spec_l03With r 2 X = some (r.1, r.2.1, X) from fun _ => rfl]
    simp only [Option.bind_some]
    simp only [if_pos (hmk _ q)]
    rw [told_eq _ _ (fin _ _), kept_eq _ (fin _ _)]
    simp only [Option.bind_some]
    exact ⟨_, rfl, rfl, fin2 _ _, fun x hx => (List.mem_filter.1 hx).2⟩
  · rw [show (w64 ((1 : Int) + 1)).tmod 3 = 2 from rfl, show (w64 ((1 : Int) + 2)).tmod 3 = 0 from rfl]
    simp only [in3_0, in3_1, in3_2, if_true]
    rw [show spec_l03Factor q 2 = some q.2.2 from rfl, show spec_l03Factor r 2 = some r.2.2 from rfl, show spec_l03Factor q 0 = some q.1 from rfl, show spec_l03Factor r 0 = some r.1 from rfl]
    simp only [Option.bind_some]
    rw [show vg zForm (#v[q.1, q.2.1, q.2.2] : Forms) 2 = q.2.2 from rfl, show vg zForm (#v[r.1, r.2.1, r.2.2] : Forms) 2 = r.2.2 from rfl, show vg zForm (#v[r.1, r.2.1, r.2.2] : Forms) 0 = r.1 from rfl]
    rw [spec_add_eq _ _ hp.1 (by omega) (by omega) (by omega), spec_add_eq _ _ hp.1 (by omega) (by omega) (by omega), sum_eq _ _ hp.1 (by omega) (by omega) (by omega)]
    simp only [Option.bind_some]
    rw [show ∀ X, vg zForm (vs (#v[q.1, q.2.1, q.2.2] : Forms) 2 X) 0 = q.1 from fun _ => rfl]
    rw [sum_eq _ _ hp.1 (by omega) (by omega) (by omega), addF_neg]
    simp only [Option.bind_some]
    rw [show ∀ X, spec_l03With q 2 X = some (q.1, q.2.1, X) from fun _ => rfl, show ∀ X, spec_l03With r 0 X = some (X, r.2.1, r.2.2) from fun _ => rfl]
    simp only [Option.bind_some]
    simp only [if_pos (hmk _ q)]
    rw [told_eq _ _ (fin _ _), kept_eq _ (fin _ _)]
    simp only [Option.bind_some]
    exact ⟨_, rfl, rfl, fin2 _ _, fun x hx => (List.mem_filter.1 hx).2⟩
  · rw [show (w64 ((2 : Int) + 1)).tmod 3 = 0 from rfl, show (w64 ((2 : Int) + 2)).tmod 3 = 1 from rfl]
    simp only [in3_0, in3_1, in3_2, if_true]
    rw [show spec_l03Factor q 0 = some q.1 from rfl, show spec_l03Factor r 0 = some r.1 from rfl, show spec_l03Factor q 1 = some q.2.1 from rfl, show spec_l03Factor r 1 = some r.2.1 from rfl]
    simp only [Option.bind_some]
    rw [show vg zForm (#v[q.1, q.2.1, q.2.2] : Forms) 0 = q.1 from rfl, show vg zForm (#v[r.1, r.2.1, r.2.2] : Forms) 0 = r.1 from rfl, show vg zForm (#v[r.1, r.2.1, r.2.2] : Forms) 1 = r.2.1 from rfl]
    rw [spec_add_eq _ _ hp.1 (by omega) (by omega) (by omega), spec_add_eq _ _ hp.1 (by omega) (by omega) (by omega), sum_eq _ _ hp.1 (by omega) (by omega) (by omega)]
    simp only [Option.bind_some]
    rw [show ∀ X, vg zForm (vs (#v[q.1, q.2.1, q.2.2] : Forms) 0 X) 1 = q.2.1 from fun _ => rfl]
    rw [sum_eq _ _ hp.1 (by omega) (by omega) (by omega), addF_neg]
    simp only [Option.bind_some]
    rw [show ∀ X, spec_l03With q 0 X = some (X, q.2.1, q.2.2) from fun _ => rfl, show ∀ X, spec_l03With r 1 X = some (r.1, X, r.2.2) from fun _ => rfl]
    simp only [Option.bind_some]
    simp only [if_pos (hmk _ q)]
    rw [told_eq _ _ (fin _ _), kept_eq _ (fin _ _)]
    simp only [Option.bind_some]
    exact ⟨_, rfl, rfl, fin2 _ _, fun x hx => (List.mem_filter.1 hx).2⟩
theorem in_eq (x lo hi : Int) : spec_l01In x lo hi = some (decide (lo ≤ x) && decide (x ≤ hi)) := by
  unfold spec_l01In
  cases decide (lo ≤ x) <;> rfl
theorem flips_eq (a : Sch) (i k f s : Int) (ha : a.ps.length ≤ 2097152) : ∃ g e, spec_FlipProducts a i k f s = some (g, e) ∧ impl_FlipProducts a i k f s = some (g, e) ∧ g.ps.length ≤ 60 := by
  obtain ⟨x, sx, ix, fx⟩ := scheme_eq2 a (by omega)
  unfold spec_FlipProducts impl_FlipProducts
  rw [sx, ix]
  simp only [Option.bind_some]
  cases x
  · exact ⟨_, _, rfl, rfl, by simp⟩
  obtain ⟨hp, hl⟩ := fx rfl
  simp only [Bool.not_true, Bool.false_eq_true, if_false]
  rw [nums_s a (by omega) _ (by simp), nums_i a _ (by simp)]
  simp only [Option.bind_some]
  cases hb : [i, k].all (inB a)
  · exact ⟨_, _, rfl, rfl, by simp⟩
  simp only [List.all_cons, List.all_nil, Bool.and_true, Bool.and_eq_true, inB, decide_eq_true_eq] at hb
  obtain ⟨⟨i0, i1⟩, k0, k1⟩ := hb
  simp only [Bool.not_true, Bool.false_eq_true, if_false]
  rw [in_eq, in_eq, w64_id (x := a.p - 1) (by omega) (by omega)]
  simp only [Option.bind_some]
  by_cases f0 : f < 0
  · rw [dtt f0, dff (show ¬ 0 ≤ f by omega)]
    exact ⟨_, _, rfl, rfl, by simp⟩
  rw [dff f0, dtt (show 0 ≤ f by omega)]
  by_cases f2 : 2 < f
  · rw [dtt f2, dff (show ¬ f ≤ 2 by omega)]
    exact ⟨_, _, rfl, rfl, by simp⟩
  rw [dff f2, dtt (show f ≤ 2 by omega)]
  simp only [Bool.false_eq_true, if_false, Bool.and_self, Bool.not_true]
  by_cases s1 : s < 1
  · rw [dtt s1, dff (show ¬ 1 ≤ s by omega)]
    exact ⟨_, _, rfl, rfl, by simp⟩
  rw [dff s1, dtt (show 1 ≤ s by omega)]
  by_cases s2 : a.p ≤ s
  · rw [dtt s2, dff (show ¬ s ≤ a.p - 1 by omega)]
    exact ⟨_, _, rfl, rfl, by simp⟩
  rw [dff s2, dtt (show s ≤ a.p - 1 by omega)]
  simp only [Bool.false_eq_true, if_false, Bool.and_self, Bool.not_true, Option.bind_some]
  by_cases hik : i = k
  · rw [dtt hik]
    exact ⟨_, _, rfl, rfl, by simp⟩
  rw [dff hik]
  simp only [Bool.false_eq_true, if_false, if_pos (show 0 ≤ i ∧ i < (a.ps.length : Int) from ⟨i0, i1⟩), if_pos (show 0 ≤ k ∧ k < (a.ps.length : Int) from ⟨k0, k1⟩)]
  unfold impl_factors
  simp only [Option.bind_some, if_pos (show 0 ≤ f ∧ f < 3 by omega)]
  generalize hq : gl zProd a.ps i = q
  generalize hr : gl zProd a.ps k = r
  have hsame : (spec_l03Factor q f).bind (fun x20 => (spec_l03Factor r f).bind fun x24 => some (decide (x20 ≠ x24))) = some (decide ((vg zForm (#v[q.1, q.2.1, q.2.2] : Forms) f) ≠ (vg zForm (#v[r.1, r.2.1, r.2.2] : Forms) f))) := by
    have hf3 : f = 0 ∨ f = 1 ∨ f = 2 := by omega
    rcases hf3 with rfl | rfl | rfl <;> rfl
  rw [hsame]
  simp only [Option.bind_some]
  cases decide ((vg zForm (#v[q.1, q.2.1, q.2.2] : Forms) f) ≠ (vg zForm (#v[r.1, r.2.1, r.2.2] : Forms) f))
  · simp only [Bool.false_eq_true, if_false]
    obtain ⟨L, h1, h2, h3, _⟩ := flip_eq a i k f s hp (by omega) ⟨i0, i1⟩ ⟨k0, k1⟩ (by omega) (by omega)
    rw [h1, h2]
    exact ⟨_, _, rfl, rfl, by show L.length ≤ 60; omega⟩
  · exact ⟨_, _, rfl, rfl, by simp⟩
end Go.Proofs.YtB
