/- Plain laws: the program's and the reference's joins are the same. -/
import Derived.Test.YtaaghemmkbgldaaJiPu3
import Derived.Test.YtaaghemmkbgldaaB13
set_option linter.unusedVariables false
set_option linter.unusedSimpArgs false
namespace Go.Proofs.YtB
open Go Go.RowKit Go.Proofs

theorem moved_eq (f : Form) (r c W i j : Int) : spec_l02Moved f r c W i j = impl_frame_put (r, c, W, i, j) f := by
  have h5 : ∀ s2 s6 s7, spec_l02Moved_l5 f c W i j s2 s6 s7 = impl_frame_put_l5 (r, c, W, i, j) f s2 s6 s7 := by
    intro s2 s6 s7
    unfold spec_l02Moved_l5 impl_frame_put_l5
    simp only
    rw [Int.mul_comm c s2, Int.mul_comm W (w64 (s2 + i))]
  have h1 : ∀ s2 s3, spec_l02Moved_l1 f r c W i j s2 s3 = impl_frame_put_l1 (r, c, W, i, j) f s2 s3 := by
    intro s2 s3
    unfold spec_l02Moved_l1 impl_frame_put_l1
    rw [show (fun s : Int × Form => spec_l02Moved_l5 f c W i j s2 s.1 s.2) = (fun s => impl_frame_put_l5 (r, c, W, i, j) f s2 s.1 s.2) from funext fun s => h5 s2 s.1 s.2]
    all_goals rfl
  unfold spec_l02Moved impl_frame_put
  rw [show (fun s : Int × Form => spec_l02Moved_l1 f r c W i j s.1 s.2) = (fun s => impl_frame_put_l1 (r, c, W, i, j) f s.1 s.2) from funext fun s => h1 s.1 s.2]
  all_goals rfl
theorem mul_le3 {x y : Int} (hx : 0 ≤ x) (hx3 : x ≤ 3) (hy : 0 ≤ y) (hy3 : y ≤ 3) : x * y = (if x = 0 then 0 else if x = 1 then y else if x = 2 then 2 * y else 3 * y) := by
  rcases (show x = 0 ∨ x = 1 ∨ x = 2 ∨ x = 3 by omega) with h | h | h | h <;> subst h <;> simp
/-- a form is laid into a frame that it fits into -/
theorem put_some (f : Form) {r c W i j : Int} (hr : 0 ≤ r) (hc : 0 ≤ c) (hc3 : c ≤ 3) (hi : 0 ≤ i) (hj : 0 ≤ j) (hri : i + r ≤ 3) (hcj : j + c ≤ W) (hW : W ≤ 3) : ∃ g, impl_frame_put (r, c, W, i, j) f = some g := by
  obtain ⟨rn, rfl⟩ := Int.eq_ofNat_of_zero_le hr
  obtain ⟨cn, rfl⟩ := Int.eq_ofNat_of_zero_le hc
  have inner : ∀ (s : Nat) (g : Form), s < rn → ∃ g', iter (fun x : Int × Form => impl_frame_put_l5 ((rn : Int), (cn : Int), W, i, j) f (s : Int) x.1 x.2) (0, g) = some (.stop ((cn : Int), g')) := by
    intro s g hs
    let F : Nat → Form := fun t => Nat.rec g (fun t h => vs h (w64 ((w64 ((w64 ((w64 ((s : Int) + i)) * W)) + (t : Int))) + j)) (vg 0 f (w64 ((w64 ((s : Int) * (cn : Int))) + (t : Int))))) t
    refine ⟨F cn, ?_⟩
    have h := iter_up (body := fun x : Int × Form => impl_frame_put_l5 ((rn : Int), (cn : Int), W, i, j) f (s : Int) x.1 x.2) (fun t => ((t : Int), F t)) cn (s' := ((cn : Int), F cn)) (fun t ht => by
      show impl_frame_put_l5 ((rn : Int), (cn : Int), W, i, j) f (s : Int) (t : Int) (F t) = _
      unfold impl_frame_put_l5
      simp only
      have e1 : (s : Int) * (cn : Int) = if (s : Int) = 0 then 0 else if (s : Int) = 1 then (cn : Int) else if (s : Int) = 2 then 2 * (cn : Int) else 3 * (cn : Int) := mul_le3 (by omega) (by omega) (by omega) (by omega)
      have b1 : 0 ≤ (s : Int) * (cn : Int) ∧ (s : Int) * (cn : Int) + t < 9 := by
        rw [e1]; split
        · omega
        · split
          · omega
          · split <;> omega
      have e2 : ((s : Int) + i) * W = if (s : Int) + i = 0 then 0 else if (s : Int) + i = 1 then W else if (s : Int) + i = 2 then 2 * W else 3 * W := mul_le3 (by omega) (by omega) (by omega) (by omega)
      have b2 : 0 ≤ ((s : Int) + i) * W ∧ ((s : Int) + i) * W + t + j < 9 := by
        rw [e2]; split
        · omega
        · split
          · omega
          · split <;> omega
      have w1 : w64 ((w64 ((s : Int) * (cn : Int))) + (t : Int)) = (s : Int) * (cn : Int) + t := by
        rw [w64_id (x := (s : Int) * (cn : Int)) (by omega) (by omega), w64_id (by omega) (by omega)]
      have w2 : w64 ((w64 ((w64 ((w64 ((s : Int) + i)) * W)) + (t : Int))) + j) = ((s : Int) + i) * W + t + j := by
        rw [w64_id (x := (s : Int) + i) (by omega) (by omega), w64_id (x := ((s : Int) + i) * W) (by omega) (by omega), w64_id (x := ((s : Int) + i) * W + t) (by omega) (by omega), w64_id (by omega) (by omega)]
      rw [dtt (by omega : (t : Int) < (cn : Int)), if_pos rfl, if_pos (by rw [w1]; omega), if_pos (by rw [w2]; omega), w64s (by omega)]) (by
      show impl_frame_put_l5 ((rn : Int), (cn : Int), W, i, j) f (s : Int) (cn : Int) (F cn) = _
      unfold impl_frame_put_l5
      simp only
      rw [dff (by omega), if_neg (by decide)])
    exact h
  have hch : ∀ (s : Nat) (g : Form), ∃ g', s < rn → iter (fun x : Int × Form => impl_frame_put_l5 ((rn : Int), (cn : Int), W, i, j) f (s : Int) x.1 x.2) (0, g) = some (.stop ((cn : Int), g')) := by
    intro s g
    by_cases hs : s < rn
    · obtain ⟨g', h⟩ := inner s g hs
      exact ⟨g', fun _ => h⟩
    · exact ⟨g, fun h => absurd h hs⟩
  let G : Nat → Form := fun s => Nat.rec zForm (fun s g => Classical.choose (hch s g)) s
  have h := iter_up (body := fun x : Int × Form => impl_frame_put_l1 ((rn : Int), (cn : Int), W, i, j) f x.1 x.2) (fun s => ((s : Int), G s)) rn (s' := ((rn : Int), G rn)) (fun s hs => by
    show impl_frame_put_l1 ((rn : Int), (cn : Int), W, i, j) f (s : Int) (G s) = _
    unfold impl_frame_put_l1
    simp only
    have := Classical.choose_spec (hch s (G s)) hs
    rw [dtt (by omega : (s : Int) < (rn : Int)), if_pos rfl, this]
    simp only [Option.bind_some]
    rw [w64s (by omega)]) (by
    show impl_frame_put_l1 ((rn : Int), (cn : Int), W, i, j) f (rn : Int) (G rn) = _
    unfold impl_frame_put_l1
    simp only
    rw [dff (by omega), if_neg (by decide)])
  refine ⟨G rn, ?_⟩
  unfold impl_frame_put
  rw [show iter (fun s : Int × Form => impl_frame_put_l1 ((rn : Int), (cn : Int), W, i, j) f s.1 s.2) (0, zForm) = some (.stop ((rn : Int), G rn)) from h]
  rfl
/-- what both lay into a frame -/
theorem framed_eq (x o : Sch) {r i c : Int} (hl : x.ps.length ≤ 1000) (hr : 0 ≤ r) (hi : 0 ≤ i) (hc : 0 ≤ c) (hn : 0 ≤ x.n) (hm : 0 ≤ x.m) (hk : 0 ≤ x.k) (rn : r + x.n ≤ 3) (im : i + x.m ≤ 3) (ck : c + x.k ≤ 3) (om : i + x.m ≤ o.m) (ok : c + x.k ≤ o.k) (om3 : o.m ≤ 3) (ok3 : o.k ≤ 3) :
    ∃ L : List Prod, L.length = x.ps.length ∧ impl_framed x o r i c = some L ∧ ∀ P : List Prod, P.length ≤ 1000 → spec_l02Put x ⟨o.p, o.n, o.m, o.k, P⟩ r i c = some ⟨o.p, o.n, o.m, o.k, P ++ L⟩ := by
  have each : ∀ j, j < x.ps.length → ∃ q : Prod, impl_frame_put (x.n, x.m, o.m, r, i) (gl zProd x.ps (j : Int)).1 = some q.1 ∧ impl_frame_put (x.m, x.k, o.k, i, c) (gl zProd x.ps (j : Int)).2.1 = some q.2.1 ∧ impl_frame_put (x.n, x.k, o.k, r, c) (gl zProd x.ps (j : Int)).2.2 = some q.2.2 := by
    intro j hj
    obtain ⟨A, hA⟩ := put_some (gl zProd x.ps (j : Int)).1 (r := x.n) (c := x.m) (W := o.m) (i := r) (j := i) hn hm (by omega) hr hi (by omega) om om3
    obtain ⟨B, hB⟩ := put_some (gl zProd x.ps (j : Int)).2.1 (r := x.m) (c := x.k) (W := o.k) (i := i) (j := c) hm hk (by omega) hi hc (by omega) ok ok3
    obtain ⟨C, hC⟩ := put_some (gl zProd x.ps (j : Int)).2.2 (r := x.n) (c := x.k) (W := o.k) (i := r) (j := c) hn hk (by omega) hr hc (by omega) ok ok3
    exact ⟨(A, B, C), hA, hB, hC⟩
  obtain ⟨L, hL, hq⟩ := pick_list (Q := fun j (q : Prod) => impl_frame_put (x.n, x.m, o.m, r, i) (gl zProd x.ps (j : Int)).1 = some q.1 ∧ impl_frame_put (x.m, x.k, o.k, i, c) (gl zProd x.ps (j : Int)).2.1 = some q.2.1 ∧ impl_frame_put (x.n, x.k, o.k, r, c) (gl zProd x.ps (j : Int)).2.2 = some q.2.2) x.ps.length each
  refine ⟨L, hL, ?_, fun P hP => ?_⟩
  · have h := iter_up (body := fun s : Int × List Prod => impl_framed_l1 x o r i c s.1 s.2) (fun j => ((j : Int), L.take j)) x.ps.length (s' := ((x.ps.length : Int), L)) (fun j hj => by
      show impl_framed_l1 x o r i c (j : Int) (L.take j) = _
      unfold impl_framed_l1
      obtain ⟨h1, h2, h3⟩ := hq j (by omega)
      rw [dtt (by omega : (j : Int) < x.ps.length), if_pos rfl, if_pos (by omega), h1]
      simp only [Option.bind_some]
      rw [h2]
      simp only [Option.bind_some]
      rw [h3]
      simp only [Option.bind_some]
      rw [if_pos (by simp only [List.length_take, List.length_singleton]; omega), w64s (by omega), ← List.take_append_getElem (show j < L.length by omega)]) (by
      show impl_framed_l1 x o r i c (x.ps.length : Int) (L.take x.ps.length) = _
      unfold impl_framed_l1
      rw [dff (by omega), if_neg (by decide), ← hL, List.take_length])
    unfold impl_framed
    rw [show iter (fun s : Int × List Prod => impl_framed_l1 x o r i c s.1 s.2) (0, ([] : List Prod)) = some (.stop ((x.ps.length : Int), L)) from h]
    rfl
  · have h := iter_up (body := fun s : Int × List Prod => spec_l02Put_l1 x ⟨o.p, o.n, o.m, o.k, P⟩ r i c s.1 s.2) (fun j => ((j : Int), P ++ L.take j)) x.ps.length (s' := ((x.ps.length : Int), P ++ L)) (fun j hj => by
      show spec_l02Put_l1 x ⟨o.p, o.n, o.m, o.k, P⟩ r i c (j : Int) (P ++ L.take j) = _
      unfold spec_l02Put_l1
      obtain ⟨h1, h2, h3⟩ := hq j (by omega)
      simp only [moved_eq]
      rw [dtt (by omega : (j : Int) < x.ps.length), if_pos rfl, if_pos (by omega), h1]
      simp only [Option.bind_some]
      rw [h2]
      simp only [Option.bind_some]
      rw [h3]
      simp only [Option.bind_some]
      rw [if_pos (by simp only [List.length_append, List.length_take, List.length_singleton]; omega), w64s (by omega), ← List.take_append_getElem (show j < L.length by omega), List.append_assoc]) (by
      show spec_l02Put_l1 x ⟨o.p, o.n, o.m, o.k, P⟩ r i c (x.ps.length : Int) (P ++ L.take x.ps.length) = _
      unfold spec_l02Put_l1
      rw [dff (by omega), if_neg (by decide), ← hL, List.take_length])
    rw [show ((0 : Nat) : Int) = 0 from rfl, List.take_zero, List.append_nil] at h
    unfold spec_l02Put
    rw [show iter (fun s : Int × List Prod => spec_l02Put_l1 x ⟨o.p, o.n, o.m, o.k, P⟩ r i c s.1 s.2) (0, P) = some (.stop ((x.ps.length : Int), P ++ L)) from h]
    rfl
/-- joins over columns -/
theorem joined_2 (a c : Sch) (ha : a.ps.length ≤ 2097152) (hc : c.ps.length ≤ 2097152) : ∃ g e, spec_l02Joined a c 2 = some (g, e) ∧ impl_joined a c 2 = some (g, e) ∧ g.ps.length ≤ 60 := by
  obtain ⟨x, sx, ix, fx⟩ := scheme_eq a (by omega)
  obtain ⟨y, sy, iy, fy⟩ := scheme_eq c (by omega)
  unfold spec_l02Joined impl_joined
  rw [are_eq a c (by omega) (by omega) ix iy, sx, sy]
  simp only [Option.bind_some]
  cases x
  · exact ⟨_, _, rfl, rfl, by simp⟩
  cases y
  · exact ⟨_, _, rfl, rfl, by simp⟩
  obtain ⟨an, am, ak, al⟩ := fx rfl
  obtain ⟨cn, cm, ck, cl⟩ := fy rfl
  simp only [Bool.not_true, Bool.and_self, Bool.false_eq_true, if_false, Option.bind_some]
  have l0 : impl_joined_l4 a c 2 0 = if a.n = c.n then some (.next 1) else some (.ret (⟨0, 0, 0, 0, []⟩, 2)) := by
    unfold impl_joined_l4
    rw [dtt (by omega : (0 : Int) < 3), if_pos rfl, dtt (by omega : (0 : Int) ≠ 2), if_pos rfl, if_pos (by omega), show vg 0 (#v[a.n, a.m, a.k] : Vec3) 0 = a.n from rfl, show vg 0 (#v[c.n, c.m, c.k] : Vec3) 0 = c.n from rfl]
    by_cases h : a.n = c.n
    · rw [dff (by simpa using h), if_pos h]; rfl
    · rw [dtt h, if_neg h]; rfl
  have l1 : impl_joined_l4 a c 2 1 = if a.m = c.m then some (.next 2) else some (.ret (⟨0, 0, 0, 0, []⟩, 2)) := by
    unfold impl_joined_l4
    rw [dtt (by omega : (1 : Int) < 3), if_pos rfl, dtt (by omega : (1 : Int) ≠ 2), if_pos rfl, if_pos (by omega), show vg 0 (#v[a.n, a.m, a.k] : Vec3) 1 = a.m from rfl, show vg 0 (#v[c.n, c.m, c.k] : Vec3) 1 = c.m from rfl]
    by_cases h : a.m = c.m
    · rw [dff (by simpa using h), if_pos h]; rfl
    · rw [dtt h, if_neg h]; rfl
  have l2 : impl_joined_l4 a c 2 2 = some (.next 3) := by
    unfold impl_joined_l4
    rfl
  have l3 : impl_joined_l4 a c 2 3 = some (.stop 3) := by
    unfold impl_joined_l4
    rfl
  by_cases hn : a.n = c.n
  · rw [iter_next (s' := 1) (by rw [l0, if_pos hn])]
    by_cases hm : a.m = c.m
    · rw [iter_next (s' := 2) (by rw [l1, if_pos hm]), iter_next l2, iter_stop l3]
      simp only [Option.bind_some]
      by_cases hp : a.p = c.p
      · have d1 : decide (a.p ≠ c.p) = false := dff (by simpa using hp)
        have d2 : decide (a.n ≠ c.n) = false := dff (by simpa using hn)
        have d3 : decide (a.m ≠ c.m) = false := dff (by simpa using hm)
        rw [d1, d2, d3]
        have g2 : gl 0 [w64 (a.n + c.n), w64 (a.m + c.m), w64 (a.k + c.k)] 2 = a.k + c.k := by
          show w64 (a.k + c.k) = _
          rw [w64_id (by omega) (by omega)]
        have v2 : vg 0 (vs (#v[a.n, a.m, a.k] : Vec3) 2 (w64 ((vg 0 (#v[a.n, a.m, a.k] : Vec3) 2) + (vg 0 (#v[c.n, c.m, c.k] : Vec3) 2)))) 2 = a.k + c.k := by
          show w64 (a.k + c.k) = _
          rw [w64_id (by omega) (by omega)]
        have v0 : vg 0 (vs (#v[a.n, a.m, a.k] : Vec3) 2 (w64 ((vg 0 (#v[a.n, a.m, a.k] : Vec3) 2) + (vg 0 (#v[c.n, c.m, c.k] : Vec3) 2)))) 0 = a.n := rfl
        have v1 : vg 0 (vs (#v[a.n, a.m, a.k] : Vec3) 2 (w64 ((vg 0 (#v[a.n, a.m, a.k] : Vec3) 2) + (vg 0 (#v[c.n, c.m, c.k] : Vec3) 2)))) 1 = a.m := rfl
        have f0 : vg 0 (vs zVec3 2 (vg 0 (#v[a.n, a.m, a.k] : Vec3) 2)) 0 = 0 := rfl
        have f1 : vg 0 (vs zVec3 2 (vg 0 (#v[a.n, a.m, a.k] : Vec3) 2)) 1 = 0 := rfl
        have f2 : vg 0 (vs zVec3 2 (vg 0 (#v[a.n, a.m, a.k] : Vec3) 2)) 2 = a.k := rfl
        rw [g2, v2, v1, v0, f0, f1, f2]
        simp only [show ((2 : Int) ≠ 0) = True by decide, show ((2 : Int) ≠ 1) = True by decide, show ((2 : Int) ≠ 2) = False by decide, decide_true, decide_false, if_true, if_false, Bool.false_eq_true, Option.bind_some]
        rw [if_pos ⟨by omega, by simp⟩, if_pos (show 0 ≤ (2 : Int) ∧ (2 : Int) < 3 by omega)]
        by_cases h3 : 3 < a.k + c.k
        · rw [dtt h3]
          exact ⟨_, _, rfl, rfl, by simp⟩
        · rw [dff h3]
          simp only [Bool.false_eq_true, if_false, Option.bind_some]
          rw [w64_id (x := (a.ps.length : Int) + c.ps.length) (by omega) (by omega)]
          by_cases h30 : 30 < (a.ps.length : Int) + c.ps.length
          · rw [dtt h30]
            exact ⟨_, _, rfl, rfl, by simp⟩
          · rw [dff h30]
            simp only [Bool.false_eq_true, if_false]
            obtain ⟨L1, e1, i1, s1⟩ := framed_eq a ⟨a.p, a.n, a.m, a.k + c.k, []⟩ (r := 0) (i := 0) (c := 0) (by omega) (by omega) (by omega) (by omega) (by omega) (by omega) (by omega) (by omega) (by omega) (by omega) (by show (0 : Int) + a.m ≤ a.m; omega) (by show (0 : Int) + a.k ≤ a.k + c.k; omega) (by show a.m ≤ 3; omega) (by show a.k + c.k ≤ 3; omega)
            obtain ⟨L2, e2, i2, s2⟩ := framed_eq c ⟨a.p, a.n, a.m, a.k + c.k, []⟩ (r := 0) (i := 0) (c := a.k) (by omega) (by omega) (by omega) (by omega) (by omega) (by omega) (by omega) (by omega) (by omega) (by omega) (by show (0 : Int) + c.m ≤ a.m; omega) (by show a.k + c.k ≤ a.k + c.k; omega) (by show a.m ≤ 3; omega) (by show a.k + c.k ≤ 3; omega)
            refine ⟨⟨a.p, a.n, a.m, a.k + c.k, L1 ++ L2⟩, 0, ?_, ?_, by simp only [List.length_append]; omega⟩
            · unfold spec_l02Join spec_l01Empty
              simp only [Option.bind_some]
              rw [show decide ((2 : Int) = 0) = false from rfl, show decide ((2 : Int) = 1) = false from rfl]
              simp only [Bool.false_eq_true, if_false]
              rw [w64_id (x := a.k + c.k) (by omega) (by omega), s1 [] (by simp)]
              simp only [Option.bind_some, List.nil_append]
              rw [s2 L1 (by omega)]
              rfl
            · rw [i1]
              simp only [Option.bind_some]
              rw [i2]
              simp only [Option.bind_some]
              rw [if_pos (by omega)]
      · have d1 : decide (a.p ≠ c.p) = true := dtt hp
        rw [d1]
        exact ⟨_, _, rfl, rfl, by simp⟩
    · rw [iter_ret (by rw [l1, if_neg hm])]
      have d3 : decide (a.m ≠ c.m) = true := dtt hm
      rw [d3]
      refine ⟨⟨0, 0, 0, 0, []⟩, 2, ?_, rfl, by simp⟩
      generalize decide (a.p ≠ c.p) = z1
      generalize decide (a.n ≠ c.n) = z2
      cases z1 <;> cases z2 <;> rfl
  · rw [iter_ret (by rw [l0, if_neg hn])]
    have d2 : decide (a.n ≠ c.n) = true := dtt hn
    rw [d2]
    refine ⟨⟨0, 0, 0, 0, []⟩, 2, ?_, rfl, by simp⟩
    generalize decide (a.p ≠ c.p) = z1
    cases z1 <;> rfl
end Go.Proofs.YtB
