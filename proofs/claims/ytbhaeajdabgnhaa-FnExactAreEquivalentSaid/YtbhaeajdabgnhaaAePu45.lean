/- Plain laws: squares, and changes by squares, in both forms. -/
import Derived.Test.YtbhaeajdabgnhaaAePu44
import Derived.Test.YtbhaeajdabgnhaaAeG1
import Derived.Test.YtbhaeajdabgnhaaAeG2
import Derived.Test.YtbhaeajdabgnhaaAeG3
set_option linter.unusedVariables false
set_option linter.unusedSimpArgs false
namespace Go.Proofs.YtB
open Go Go.RowKit Go.Proofs
theorem Sq.eqM {p : Int} {n : Nat} {L : List (List Int)} (h : Sq p n L) : L = mkM n n (ge L) := mkM_eq h.len fun x hx => (h.row x hx).1
theorem Sq.bd {p : Int} {n : Nat} {L : List (List Int)} (hp : pr p) (h : Sq p n L) : Bd p n n (ge L) := fun i j hi hj => gl_bd (pr_le hp).1 (h.row _ (h.mem hi)).2 j
theorem out_sq {p : Int} {n : Nat} (hp : pr p) {M : Nat → List Int} (hM : Mok p n (2 * n) M) (h1 : 1 ≤ n) (h3 : n ≤ 3) : Sq p n (outM n M) := by
  refine ⟨by simp [outM], h1, h3, fun x hx => ?_⟩
  unfold outM at hx
  obtain ⟨k, hk, rfl⟩ := List.mem_map.1 hx
  have hk := List.mem_range.1 hk
  have hl := hM.len k hk
  refine ⟨by rw [List.length_drop]; omega, fun y hy => ?_⟩
  obtain ⟨t, ht, rfl⟩ := List.mem_iff_getElem.1 (List.mem_of_mem_drop hy)
  have := hM.rng k hk t
  rw [gl_nat ht] at this
  exact this
/-- a form between two squares -/
def tri (p : Int) (r c : Nat) (g : Nat → Nat → Int) (f : Form) (h : Nat → Nat → Int) : Form := formM r c fun i l => dotF p (fun i l => dotF p g (fun i j => ent f (i * c + j)) i l r) h i l c
theorem form_bd {p : Int} {f : Form} {r c : Nat} (hp : pr p) (hr : r ≤ 3) (hc : c ≤ 3) (hl : ∀ j, (hj : j < 9) → ((f[j].toNat : Nat) : Int) < p) : Bd p r c (fun i j => ent f (i * c + j)) := by
  intro i j hi hj
  have h1 : i * c + c ≤ r * c := by rw [← Nat.succ_mul]; exact Nat.mul_le_mul_right _ hi
  have h9 := rc_le hr hc
  show 0 ≤ ent f (i * c + j) ∧ ent f (i * c + j) < p
  unfold ent
  rw [vg_nat (show i * c + j < 9 by omega)]
  exact ⟨by omega, hl _ (by omega)⟩
theorem both_i {p : Int} {f : Form} {r c : Nat} {g h : Nat → Nat → Int} (hp : pr p) (hr1 : 1 ≤ r) (hr : r ≤ 3) (hc1 : 1 ≤ c) (hc : c ≤ 3) (hg : Bd p r r g) (hh : Bd p c c h) (hl : ∀ j, (hj : j < 9) → ((f[j].toNat : Nat) : Int) < p) :
    impl_changed_1 (mkM r r g) f (r : Int) (c : Int) (mkM c c h) p = some (tri p r c g f h) := by
  unfold impl_changed_1
  rw [matrix_i f r c hr hc hc1]
  simp only [Option.bind_some]
  rw [mat_mkM, multiply_i hp hg (form_bd hp hr hc hl) hr hr hr1 hc]
  simp only [Option.bind_some]
  rw [multiply_i hp (fun i j _ _ => dotF_bd hp _ _ _ _ _) hh hr hc hc1 hc]
  simp only [Option.bind_some]
  rw [formOf_i hr hc hc1]
  rfl
theorem both_s {p : Int} {f : Form} {r c : Nat} {g h : Nat → Nat → Int} (hp : pr p) (hr1 : 1 ≤ r) (hr : r ≤ 3) (hc1 : 1 ≤ c) (hc : c ≤ 3) (hg : Bd p r r g) (hh : Bd p c c h) (hl : ∀ j, (hj : j < 9) → ((f[j].toNat : Nat) : Int) < p) :
    spec_l04Both p (mkM r r g) f (mkM c c h) = some (tri p r c g f h) := by
  unfold spec_l04Both
  rw [mkM_len, mkM_len, rows_s f hr hc]
  simp only [Option.bind_some]
  rw [mat_mkM, plain_s hp hg (form_bd hp hr hc hl) hr hr hr1 hc]
  simp only [Option.bind_some]
  rw [plain_s hp (fun i j _ _ => dotF_bd hp _ _ _ _ _) hh hr hc hc1 hc]
  simp only [Option.bind_some]
  rw [form_s hr hc hc1]
  rfl
def trp (g : Nat → Nat → Int) : Nat → Nat → Int := fun i j => g j i
theorem Bd.trp {p : Int} {n : Nat} {g : Nat → Nat → Int} (h : Bd p n n g) : Bd p n n (trp g) := fun i j hi hj => h j i hj hi
/-- a product, changed by squares g with inverses h -/
def chP (p : Int) (n m k : Nat) (g1 g2 g3 h1 h2 h3 : Nat → Nat → Int) (q : Prod) : Prod := (tri p n m (trp g1) q.1 (trp h2), tri p m k (trp g2) q.2.1 (trp h3), tri p n k h1 q.2.2 g3)
theorem IsSch.flt {a : Sch} (h : IsSch a) {q : Prod} (hq : q ∈ a.ps) : (∀ j, (hj : j < 9) → ((q.1[j].toNat : Nat) : Int) < a.p) ∧ (∀ j, (hj : j < 9) → ((q.2.1[j].toNat : Nat) : Int) < a.p) ∧ (∀ j, (hj : j < 9) → ((q.2.2[j].toNat : Nat) : Int) < a.p) := by
  have := h.q q hq
  unfold goodP at this
  simp only [Bool.and_eq_true] at this
  exact ⟨goodF_lt this.1.1.1, goodF_lt this.1.1.2, goodF_lt this.1.2⟩
/-- both change alike: a scheme of sizes n, m, k by squares of them with their inverses -/
theorem changed_both {a : Sch} (ha : IsSch a) {n m k : Nat} (hn : a.n = n) (hm : a.m = m) (hk : a.k = k) {L1 L2 L3 : List (List Int)} (s1 : Sq a.p n L1) (s2 : Sq a.p m L2) (s3 : Sq a.p k L3) {M1 M2 M3 : Nat → List Int}
    (g1 : gj a.p n n 0 (augM n L1) = some M1) (g2 : gj a.p m m 0 (augM m L2) = some M2) (g3 : gj a.p k k 0 (augM k L3) = some M3) :
    impl_changed a L1 L2 L3 = some ⟨a.p, a.n, a.m, a.k, a.ps.map (chP a.p n m k (ge L1) (ge L2) (ge L3) (ge (outM n M1)) (ge (outM m M2)) (ge (outM k M3)))⟩ ∧
    spec_l04Change a (L1, L2, L3) (outM n M1, outM m M2, outM k M3) = some ⟨a.p, a.n, a.m, a.k, a.ps.map (chP a.p n m k (ge L1) (ge L2) (ge L3) (ge (outM n M1)) (ge (outM m M2)) (ge (outM k M3)))⟩ := by
  have hp : pr a.p := ha.p
  obtain ⟨i1, o1⟩ := inverted_i hp s1 g1
  obtain ⟨i2, o2⟩ := inverted_i hp s2 g2
  obtain ⟨i3, o3⟩ := inverted_i hp s3 g3
  have n3 := s1.n3
  have m3 := s2.n3
  have k3 := s3.n3
  have n1 := s1.n1
  have m1 := s2.n1
  have k1 := s3.n1
  have q1 := out_sq hp o1 n1 n3
  have q2 := out_sq hp o2 m1 m3
  have q3 := out_sq hp o3 k1 k3
  have t1 : impl_transposed L1 = some (mkM n n (trp (ge L1))) := by rw [s1.eqM, transposed_i n3 n1 n3, ← s1.eqM]; rfl
  have t2 : impl_transposed L2 = some (mkM m m (trp (ge L2))) := by rw [s2.eqM, transposed_i m3 m1 m3, ← s2.eqM]; rfl
  have t3 : impl_transposed (outM m M2) = some (mkM m m (trp (ge (outM m M2)))) := by rw [q2.eqM, transposed_i m3 m1 m3, ← q2.eqM]; rfl
  have t4 : impl_transposed (outM k M3) = some (mkM k k (trp (ge (outM k M3)))) := by rw [q3.eqM, transposed_i k3 k1 k3, ← q3.eqM]; rfl
  have f1 : spec_l04Flip L1 = some (mkM n n (trp (ge L1))) := by rw [s1.eqM, flip_s n3, ← s1.eqM]; rfl
  have f2 : spec_l04Flip L2 = some (mkM m m (trp (ge L2))) := by rw [s2.eqM, flip_s m3, ← s2.eqM]; rfl
  have f3 : spec_l04Flip (outM m M2) = some (mkM m m (trp (ge (outM m M2)))) := by rw [q2.eqM, flip_s m3, ← q2.eqM]; rfl
  have f4 : spec_l04Flip (outM k M3) = some (mkM k k (trp (ge (outM k M3)))) := by rw [q3.eqM, flip_s k3, ← q3.eqM]; rfl
  have e1 := q1.eqM
  have e3 := s3.eqM
  have hl := ha.l
  generalize hF : chP a.p n m k (ge L1) (ge L2) (ge L3) (ge (outM n M1)) (ge (outM m M2)) (ge (outM k M3)) = F
  have hml : (a.ps.map F).length = a.ps.length := List.length_map _
  have hget : ∀ j (hj : j < a.ps.length), (a.ps.map F)[j]'(by omega) = F a.ps[j] := fun j hj => List.getElem_map _
  constructor
  · unfold impl_changed
    rw [t1]
    simp only [Option.bind_some]
    rw [t2]
    simp only [Option.bind_some]
    rw [i2]
    simp only [Option.bind_some]
    rw [t3]
    simp only [Option.bind_some]
    rw [i3]
    simp only [Option.bind_some]
    rw [t4]
    simp only [Option.bind_some]
    rw [i1]
    simp only [Option.bind_some]
    have := iter_up (body := fun s : Int × List Prod => impl_changed_l29 a L3 (mkM n n (trp (ge L1))) (mkM m m (trp (ge L2))) (mkM m m (trp (ge (outM m M2)))) (mkM k k (trp (ge (outM k M3)))) (outM n M1) s.1 s.2) (fun j => ((j : Int), (a.ps.map F).take j)) a.ps.length (s' := ((a.ps.length : Int), a.ps.map F)) (fun j hj => by
      show impl_changed_l29 a L3 _ _ _ _ (outM n M1) (j : Int) ((a.ps.map F).take j) = _
      obtain ⟨l1, l2, l3⟩ := ha.flt (List.getElem_mem hj)
      unfold impl_changed_l29
      rw [dtt (by omega), if_pos rfl, if_pos ⟨by omega, by omega⟩, gl_nat hj, hn, hm, hk, both_i hp n1 n3 m1 m3 (s1.bd hp).trp (q2.bd hp).trp l1]
      simp only [Option.bind_some]
      rw [both_i hp m1 m3 k1 k3 (s2.bd hp).trp (q3.bd hp).trp l2]
      simp only [Option.bind_some]
      have b3 := both_i hp n1 n3 k1 k3 (q1.bd hp) (s3.bd hp) l3
      rw [← e1, ← e3] at b3
      rw [b3]
      simp only [Option.bind_some]
      have e : (tri a.p n m (trp (ge L1)) a.ps[j].1 (trp (ge (outM m M2))), tri a.p m k (trp (ge L2)) a.ps[j].2.1 (trp (ge (outM k M3))), tri a.p n k (ge (outM n M1)) a.ps[j].2.2 (ge L3)) = (a.ps.map F)[j]'(by omega) := by
        rw [hget j hj, ← hF]; rfl
      rw [e, if_pos (by simp; omega), w64s (by omega), List.take_append_getElem (by omega)]) (by
      show impl_changed_l29 a L3 _ _ _ _ (outM n M1) (a.ps.length : Int) ((a.ps.map F).take a.ps.length) = _
      unfold impl_changed_l29
      rw [dff (by omega), if_neg (by decide), List.take_of_length_le (by omega)])
    have h0 : (((0 : Nat) : Int), (a.ps.map F).take 0) = (0, []) := by simp
    rw [h0] at this
    rw [this]
    rfl
  · unfold spec_l04Change spec_l01Empty
    simp only [Option.bind_some]
    have := iter_up (body := fun s : Int × List Prod => spec_l04Change_l5 a (L1, L2, L3) (outM n M1, outM m M2, outM k M3) s.1 s.2) (fun j => ((j : Int), (a.ps.map F).take j)) a.ps.length (s' := ((a.ps.length : Int), a.ps.map F)) (fun j hj => by
      show spec_l04Change_l5 a (L1, L2, L3) (outM n M1, outM m M2, outM k M3) (j : Int) ((a.ps.map F).take j) = _
      obtain ⟨l1, l2, l3⟩ := ha.flt (List.getElem_mem hj)
      unfold spec_l04Change_l5
      dsimp only
      rw [dtt (by omega), if_pos rfl, if_pos ⟨by omega, by omega⟩, gl_nat hj, f1]
      simp only [Option.bind_some]
      rw [f3]
      simp only [Option.bind_some]
      rw [both_s hp n1 n3 m1 m3 (s1.bd hp).trp (q2.bd hp).trp l1]
      simp only [Option.bind_some]
      rw [f2]
      simp only [Option.bind_some]
      rw [f4]
      simp only [Option.bind_some]
      rw [both_s hp m1 m3 k1 k3 (s2.bd hp).trp (q3.bd hp).trp l2]
      simp only [Option.bind_some]
      have b3 := both_s hp n1 n3 k1 k3 (q1.bd hp) (s3.bd hp) l3
      rw [← e1, ← e3] at b3
      rw [b3]
      simp only [Option.bind_some]
      have e : (tri a.p n m (trp (ge L1)) a.ps[j].1 (trp (ge (outM m M2))), tri a.p m k (trp (ge L2)) a.ps[j].2.1 (trp (ge (outM k M3))), tri a.p n k (ge (outM n M1)) a.ps[j].2.2 (ge L3)) = (a.ps.map F)[j]'(by omega) := by
        rw [hget j hj, ← hF]; rfl
      rw [e, if_pos (by simp; omega), w64s (by omega), List.take_append_getElem (by omega)]) (by
      show spec_l04Change_l5 a (L1, L2, L3) (outM n M1, outM m M2, outM k M3) (a.ps.length : Int) ((a.ps.map F).take a.ps.length) = _
      unfold spec_l04Change_l5
      rw [dff (by omega), if_neg (by decide), List.take_of_length_le (by omega)])
    have h0 : (((0 : Nat) : Int), (a.ps.map F).take 0) = (0, []) := by simp
    rw [h0] at this
    rw [this]
    rfl
end Go.Proofs.YtB
