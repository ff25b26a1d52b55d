/- Plain laws: joins over inner. -/
import Derived.Test.YtaaghemmkbgldaaJiPu4
set_option linter.unusedVariables false
set_option linter.unusedSimpArgs false
namespace Go.Proofs.YtB
open Go Go.RowKit Go.Proofs

/-- joins over inner -/
theorem joined_1 (a c : Sch) (ha : a.ps.length ≤ 2097152) (hc : c.ps.length ≤ 2097152) : ∃ g e, spec_l02Joined a c 1 = some (g, e) ∧ impl_joined a c 1 = some (g, e) ∧ g.ps.length ≤ 60 := by
  obtain ⟨x, sx, ix, fx⟩ := scheme_eq a (by omega)
  obtain ⟨y, sy, iy, fy⟩ := scheme_eq c (by omega)
  unfold spec_l02Joined impl_joined
  rw [are_eq a c (by omega) (by omega) ix iy, sx, sy]
  simp only [Option.bind_some]
  cases x
  · exact ⟨_, _, rfl, rfl, by simp⟩
  cases y
  · exact ⟨_, _, rfl, rfl, by simp⟩
  obtain ⟨an, am, ak, al⟩ := fx rfl
  obtain ⟨cn, cm, ck, cl⟩ := fy rfl
  simp only [Bool.not_true, Bool.and_self, Bool.false_eq_true, if_false, Option.bind_some]
  have l0 : impl_joined_l4 a c 1 0 = if a.n = c.n then some (.next 1) else some (.ret (⟨0, 0, 0, 0, []⟩, 2)) := by
    unfold impl_joined_l4
    rw [dtt (by omega : (0 : Int) < 3), if_pos rfl, dtt (by omega : (0 : Int) ≠ 1), if_pos rfl, if_pos (by omega), show vg 0 (#v[a.n, a.m, a.k] : Vec3) 0 = a.n from rfl, show vg 0 (#v[c.n, c.m, c.k] : Vec3) 0 = c.n from rfl]
    by_cases h : a.n = c.n
    · rw [dff (by simpa using h), if_pos h]; rfl
    · rw [dtt h, if_neg h]; rfl
  have l1 : impl_joined_l4 a c 1 1 = some (.next 2) := by
    unfold impl_joined_l4
    rfl
  have l2 : impl_joined_l4 a c 1 2 = if a.k = c.k then some (.next 3) else some (.ret (⟨0, 0, 0, 0, []⟩, 2)) := by
    unfold impl_joined_l4
    rw [dtt (by omega : (2 : Int) < 3), if_pos rfl, dtt (by omega : (2 : Int) ≠ 1), if_pos rfl, if_pos (by omega), show vg 0 (#v[a.n, a.m, a.k] : Vec3) 2 = a.k from rfl, show vg 0 (#v[c.n, c.m, c.k] : Vec3) 2 = c.k from rfl]
    by_cases h : a.k = c.k
    · rw [dff (by simpa using h), if_pos h]; rfl
    · rw [dtt h, if_neg h]; rfl
  have l3 : impl_joined_l4 a c 1 3 = some (.stop 3) := by
    unfold impl_joined_l4
    rfl
  by_cases hn : a.n = c.n
  · rw [iter_next (s' := 1) (by rw [l0, if_pos hn]), iter_next l1]
    by_cases hk : a.k = c.k
    · rw [iter_next (s' := 3) (by rw [l2, if_pos hk]), iter_stop l3]
      simp only [Option.bind_some]
      by_cases hp : a.p = c.p
      · have d1 : decide (a.p ≠ c.p) = false := dff (by simpa using hp)
        have d2 : decide (a.n ≠ c.n) = false := dff (by simpa using hn)
        have d3 : decide (a.k ≠ c.k) = false := dff (by simpa using hk)
        rw [d1, d2, d3]
        have g2 : gl 0 [w64 (a.n + c.n), w64 (a.m + c.m), w64 (a.k + c.k)] 1 = a.m + c.m := by
          show w64 (a.m + c.m) = _
          rw [w64_id (by omega) (by omega)]
        have v1 : vg 0 (vs (#v[a.n, a.m, a.k] : Vec3) 1 (w64 ((vg 0 (#v[a.n, a.m, a.k] : Vec3) 1) + (vg 0 (#v[c.n, c.m, c.k] : Vec3) 1)))) 1 = a.m + c.m := by
          show w64 (a.m + c.m) = _
          rw [w64_id (by omega) (by omega)]
        have v0 : vg 0 (vs (#v[a.n, a.m, a.k] : Vec3) 1 (w64 ((vg 0 (#v[a.n, a.m, a.k] : Vec3) 1) + (vg 0 (#v[c.n, c.m, c.k] : Vec3) 1)))) 0 = a.n := rfl
        have v2 : vg 0 (vs (#v[a.n, a.m, a.k] : Vec3) 1 (w64 ((vg 0 (#v[a.n, a.m, a.k] : Vec3) 1) + (vg 0 (#v[c.n, c.m, c.k] : Vec3) 1)))) 2 = a.k := rfl
        have f0 : vg 0 (vs zVec3 1 (vg 0 (#v[a.n, a.m, a.k] : Vec3) 1)) 0 = 0 := rfl
        have f1 : vg 0 (vs zVec3 1 (vg 0 (#v[a.n, a.m, a.k] : Vec3) 1)) 1 = a.m := rfl
        have f2 : vg 0 (vs zVec3 1 (vg 0 (#v[a.n, a.m, a.k] : Vec3) 1)) 2 = 0 := rfl
        rw [g2, v2, v1, v0, f0, f1, f2]
        simp only [show ((1 : Int) ≠ 0) = True by decide, show ((1 : Int) ≠ 1) = False by decide, show ((1 : Int) ≠ 2) = True by decide, decide_true, decide_false, if_true, if_false, Bool.false_eq_true, Option.bind_some]
        rw [if_pos ⟨by omega, by simp⟩, if_pos (show 0 ≤ (1 : Int) ∧ (1 : Int) < 3 by omega)]
        by_cases h3 : 3 < a.m + c.m
        · rw [dtt h3]
          exact ⟨_, _, rfl, rfl, by simp⟩
        · rw [dff h3]
          simp only [Bool.false_eq_true, if_false, Option.bind_some]
          rw [w64_id (x := (a.ps.length : Int) + c.ps.length) (by omega) (by omega)]
          by_cases h30 : 30 < (a.ps.length : Int) + c.ps.length
          · rw [dtt h30]
            exact ⟨_, _, rfl, rfl, by simp⟩
          · rw [dff h30]
            simp only [Bool.false_eq_true, if_false]
            obtain ⟨L1, e1, i1, s1⟩ := framed_eq a ⟨a.p, a.n, a.m + c.m, a.k, []⟩ (r := 0) (i := 0) (c := 0) (by omega) (by omega) (by omega) (by omega) (by omega) (by omega) (by omega) (by omega) (by omega) (by omega) (by show (0 : Int) + a.m ≤ a.m + c.m; omega) (by show (0 : Int) + a.k ≤ a.k; omega) (by show a.m + c.m ≤ 3; omega) (by show a.k ≤ 3; omega)
            obtain ⟨L2, e2, i2, s2⟩ := framed_eq c ⟨a.p, a.n, a.m + c.m, a.k, []⟩ (r := 0) (i := a.m) (c := 0) (by omega) (by omega) (by omega) (by omega) (by omega) (by omega) (by omega) (by omega) (by omega) (by omega) (by show a.m + c.m ≤ a.m + c.m; omega) (by show (0 : Int) + c.k ≤ a.k; omega) (by show a.m + c.m ≤ 3; omega) (by show a.k ≤ 3; omega)
            refine ⟨⟨a.p, a.n, a.m + c.m, a.k, L1 ++ L2⟩, 0, ?_, ?_, by simp only [List.length_append]; omega⟩
            · unfold spec_l02Join spec_l01Empty
              simp only [Option.bind_some]
              rw [show decide ((1 : Int) = 0) = false from rfl]
              simp only [decide_true, Bool.false_eq_true, if_false, if_true]
              rw [w64_id (x := a.m + c.m) (by omega) (by omega), s1 [] (by simp)]
              simp only [Option.bind_some, List.nil_append]
              rw [s2 L1 (by omega)]
              rfl
            · rw [i1]
              simp only [Option.bind_some]
              rw [i2]
              simp only [Option.bind_some]
              rw [if_pos (by omega)]
      · have d1 : decide (a.p ≠ c.p) = true := dtt hp
        rw [d1]
        exact ⟨_, _, rfl, rfl, by simp⟩
    · rw [iter_ret (by rw [l2, if_neg hk])]
      have d3 : decide (a.k ≠ c.k) = true := dtt hk
      rw [d3]
      refine ⟨⟨0, 0, 0, 0, []⟩, 2, ?_, rfl, by simp⟩
      generalize decide (a.p ≠ c.p) = z1
      generalize decide (a.n ≠ c.n) = z2
      cases z1 <;> cases z2 <;> rfl
  · rw [iter_ret (by rw [l0, if_neg hn])]
    have d2 : decide (a.n ≠ c.n) = true := dtt hn
    rw [d2]
    refine ⟨⟨0, 0, 0, 0, []⟩, 2, ?_, rfl, by simp⟩
    generalize decide (a.p ≠ c.p) = z1
    cases z1 <;> rfl
end Go.Proofs.YtB
