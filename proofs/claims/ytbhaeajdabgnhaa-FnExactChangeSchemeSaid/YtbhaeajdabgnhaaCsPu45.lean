/- Plain laws: squares, and changes by squares, in both forms. -/
import Derived.Test.YtbhaeajdabgnhaaCsPu44
import Derived.Test.YtbhaeajdabgnhaaCsG3
import Derived.Test.YtbhaeajdabgnhaaCsG1
set_option linter.unusedVariables false
set_option linter.unusedSimpArgs false
namespace Go.Proofs.YtB
open Go Go.RowKit Go.Proofs
theorem all_range {α : Type} {x : List α} {ok : Nat → Bool} {f : α → Bool} (h : ∀ j (hj : j < x.length), ok j = f x[j]) : (List.range x.length).all ok = x.all f := by
  rw [Bool.eq_iff_iff, List.all_eq_true, List.all_eq_true]
  constructor
  · intro H y hy
    obtain ⟨j, hj, rfl⟩ := List.mem_iff_getElem.1 hy
    rw [← h j hj]; exact H j (List.mem_range.2 hj)
  · intro H j hj
    rw [h j (List.mem_range.1 hj)]
    exact H _ (List.getElem_mem _)
def numB (p : Int) (x : List Int) : Bool := x.all fun y => decide (0 ≤ y) && decide (y < p)
def rowB (p : Int) (n : Nat) (x : List Int) : Bool := decide (x.length = n) && numB p x
theorem numbers_i (p : Int) (x : List Int) (h : x.length ≤ 9000000000000000000) : impl_areNumbers p x = some (numB p x) := by
  have := iter_all (body := fun s => impl_areNumbers_l1 p x s) (fun j => (j : Int)) x.length (fun j => if hj : j < x.length then decide (0 ≤ x[j]) && decide (x[j] < p) else true) false (s' := (x.length : Int)) (fun j hj => by
    show impl_areNumbers_l1 p x (j : Int) = _
    unfold impl_areNumbers_l1
    rw [dtt (by omega), if_pos rfl, if_pos ⟨by omega, by omega⟩, gl_nat hj, w64s (by omega), dif_pos hj]
    by_cases h1 : x[j] < 0
    · rw [dtt h1, dff (show ¬ 0 ≤ x[j] by omega)]; rfl
    · rw [dff h1, dtt (show 0 ≤ x[j] by omega)]
      by_cases h2 : p ≤ x[j]
      · rw [dtt h2, dff (show ¬ x[j] < p by omega)]; rfl
      · rw [dff h2, dtt (show x[j] < p by omega)]; rfl) (by
    show impl_areNumbers_l1 p x (x.length : Int) = _
    unfold impl_areNumbers_l1
    rw [dff (by omega), if_neg (by decide)])
  rw [all_range (f := fun y => decide (0 ≤ y) && decide (y < p)) (fun j hj => by rw [dif_pos hj])] at this
  unfold impl_areNumbers numB
  rw [show ((0 : Nat) : Int) = 0 from rfl] at this
  rw [this]
  cases x.all fun y => decide (0 ≤ y) && decide (y < p) <;> rfl
theorem matrix_i2 (p : Int) (n : Nat) (L : List (List Int)) (hl : L.length ≤ 9000000000000000000) (h : ∀ x ∈ L, x.length ≤ 9000000000000000000) : impl_isMatrix p (n : Int) (n : Int) L = some (L.all (rowB p n) && decide (L.length = n)) := by
  have := iter_all (body := fun s => impl_isMatrix_l1 p (n : Int) L s) (fun j => (j : Int)) L.length (fun j => if hj : j < L.length then rowB p n L[j] else true) false (s' := (L.length : Int)) (fun j hj => by
    show impl_isMatrix_l1 p (n : Int) L (j : Int) = _
    unfold impl_isMatrix_l1
    rw [dtt (by omega), if_pos rfl, if_pos ⟨by omega, by omega⟩, gl_nat hj, w64s (by omega), numbers_i p _ (h _ (List.getElem_mem hj)), dif_pos hj]
    unfold rowB
    by_cases h1 : L[j].length = n
    · rw [dff (show ¬ (L[j].length : Int) ≠ (n : Int) by omega), dtt h1]
      cases numB p L[j] <;> rfl
    · rw [dtt (show (L[j].length : Int) ≠ (n : Int) by omega), dff h1]; rfl) (by
    show impl_isMatrix_l1 p (n : Int) L (L.length : Int) = _
    unfold impl_isMatrix_l1
    rw [dff (by omega), if_neg (by decide)])
  rw [all_range (f := rowB p n) (fun j hj => by rw [dif_pos hj])] at this
  unfold impl_isMatrix
  rw [show ((0 : Nat) : Int) = 0 from rfl] at this
  rw [this]
  cases L.all (rowB p n)
  · rfl
  · simp only [if_true, Option.bind_some, Bool.true_and]
    congr 1
    rw [Bool.eq_iff_iff]; simp; omega
theorem in_lo {p x : Int} (hp : pr p) : spec_l01In x 0 (w64 (p - 1)) = some (decide (0 ≤ x) && decide (x < p)) := by
  have l := pr_le hp
  unfold spec_l01In
  rw [w64_lit (by omega) (by omega)]
  by_cases h : 0 ≤ x
  · rw [dtt h]
    simp only [if_true, Option.bind_some, Bool.true_and]
    congr 1
    rw [Bool.eq_iff_iff]; simp; omega
  · rw [dff h]; rfl
theorem matrix_s2 {p : Int} (hp : pr p) (n : Nat) (L : List (List Int)) (hl : L.length ≤ 9000000000000000000) (h : ∀ x ∈ L, x.length ≤ 9000000000000000000) : spec_l01Matrix p L (n : Int) (n : Int) = some (decide (L.length = n) && L.all (rowB p n)) := by
  have hrow : ∀ (i : Nat) (hi : i < L.length), iter (fun s => spec_l01Matrix_l8 p L (i : Int) s) 0 = if numB p L[i] then some (.stop (L[i].length : Int)) else some (.ret false) := fun i hi => by
    have hx := h _ (List.getElem_mem hi)
    have := iter_all (body := fun s => spec_l01Matrix_l8 p L (i : Int) s) (fun j => (j : Int)) L[i].length (fun j => if hj : j < L[i].length then decide (0 ≤ L[i][j]) && decide (L[i][j] < p) else true) false (s' := (L[i].length : Int)) (fun j hj => by
      show spec_l01Matrix_l8 p L (i : Int) (j : Int) = _
      unfold spec_l01Matrix_l8
      rw [gl_nat hi, dtt (by omega), if_pos rfl, if_pos ⟨by omega, by omega⟩, gl_nat hj, in_lo hp, w64s (by omega), dif_pos hj]
      simp only [Option.bind_some]
      cases decide (0 ≤ L[i][j]) && decide (L[i][j] < p) <;> rfl) (by
      show spec_l01Matrix_l8 p L (i : Int) (L[i].length : Int) = _
      unfold spec_l01Matrix_l8
      rw [gl_nat hi, dff (by omega), if_neg (by decide)])
    rw [all_range (f := fun y => decide (0 ≤ y) && decide (y < p)) (fun j hj => by rw [dif_pos hj])] at this
    exact this
  have := iter_all (body := fun s => spec_l01Matrix_l2 p L (n : Int) s) (fun j => (j : Int)) L.length (fun j => if hj : j < L.length then rowB p n L[j] else true) false (s' := (L.length : Int)) (fun j hj => by
    show spec_l01Matrix_l2 p L (n : Int) (j : Int) = _
    unfold spec_l01Matrix_l2
    rw [dtt (by omega), if_pos rfl, if_pos ⟨by omega, by omega⟩, gl_nat hj, w64s (by omega), hrow j hj, dif_pos hj]
    unfold rowB
    by_cases h1 : L[j].length = n
    · rw [dff (show ¬ (L[j].length : Int) ≠ (n : Int) by omega), dtt h1]
      cases numB p L[j] <;> rfl
    · rw [dtt (show (L[j].length : Int) ≠ (n : Int) by omega), dff h1]; rfl) (by
    show spec_l01Matrix_l2 p L (n : Int) (L.length : Int) = _
    unfold spec_l01Matrix_l2
    rw [dff (by omega), if_neg (by decide)])
  rw [all_range (f := rowB p n) (fun j hj => by rw [dif_pos hj])] at this
  unfold spec_l01Matrix
  rw [show ((0 : Nat) : Int) = 0 from rfl] at this
  rw [this]
  by_cases h1 : L.length = n
  · rw [dff (show ¬ (L.length : Int) ≠ (n : Int) by omega), dtt h1]
    cases L.all (rowB p n) <;> rfl
  · rw [dtt (show (L.length : Int) ≠ (n : Int) by omega), dff h1]; rfl
theorem size_one (x : Int) : impl_isSize [x] = some (sizeB x) := by
  unfold impl_isSize sizeB
  have e0 : impl_isSize_l1 [x] 0 = if decide (1 ≤ x) && decide (x ≤ 3) then some (.next 1) else some (.ret false) := by
    unfold impl_isSize_l1
    simp only [List.length_cons, List.length_nil, show decide ((0 : Int) < ((0 + 1 : Nat) : Int)) = true from rfl, if_true, show (0 ≤ (0 : Int) ∧ (0 : Int) < ((0 + 1 : Nat) : Int)) = True by simp, show gl 0 [x] 0 = x from rfl, show w64 ((0 : Int) + 1) = 1 from rfl]
    by_cases h1 : x < 1
    · rw [dtt h1, dff (show ¬ 1 ≤ x by omega)]; rfl
    · rw [dff h1, dtt (show 1 ≤ x by omega)]
      by_cases h2 : 3 < x
      · rw [dtt h2, dff (show ¬ x ≤ 3 by omega)]; rfl
      · rw [dff h2, dtt (show x ≤ 3 by omega)]; rfl
  have e1 : impl_isSize_l1 [x] 1 = some (.stop 1) := by unfold impl_isSize_l1; rfl
  cases hb : decide (1 ≤ x) && decide (x ≤ 3)
  · rw [hb] at e0
    rw [iter_ret e0]; rfl
  · rw [hb] at e0
    rw [iter_next (s' := 1) e0, iter_stop e1]; rfl
def sqB (p : Int) (L : List (List Int)) : Bool := primeB p && (sizeB (L.length : Int) && L.all (rowB p L.length))
theorem primeB_pr {p : Int} (h : primeB p = true) : pr p := by
  unfold primeB at h
  simp only [Bool.or_eq_true, decide_eq_true_eq] at h
  unfold pr
  omega
theorem square_i (p : Int) (L : List (List Int)) (hl : L.length ≤ 9000000000000000000) (h : ∀ x ∈ L, x.length ≤ 9000000000000000000) : impl_isSquare p L = some (sqB p L) := by
  unfold impl_isSquare sqB
  rw [prime_i, size_one, matrix_i2 p L.length L hl h]
  simp only [Option.bind_some, decide_true, Bool.and_true]
  cases primeB p
  · rfl
  · cases sizeB (L.length : Int)
    · rfl
    · rfl
theorem square_s (p : Int) (L : List (List Int)) (hl : L.length ≤ 9000000000000000000) (h : ∀ x ∈ L, x.length ≤ 9000000000000000000) : spec_l04Square p L = some (sqB p L) := by
  unfold spec_l04Square sqB
  rw [prime_s, in_s]
  simp only [Option.bind_some]
  cases hp : primeB p
  · rfl
  · rw [matrix_s2 (primeB_pr hp) L.length L hl h]
    cases sizeB (L.length : Int)
    · rfl
    · simp
theorem sqB_sq {p : Int} {L : List (List Int)} (h : sqB p L = true) : pr p ∧ Sq p L.length L := by
  unfold sqB at h
  simp only [Bool.and_eq_true, List.all_eq_true] at h
  obtain ⟨h1, h2, h3⟩ := h
  unfold sizeB at h2
  simp only [Bool.and_eq_true, decide_eq_true_eq] at h2
  refine ⟨primeB_pr h1, rfl, by omega, by omega, fun x hx => ?_⟩
  have := h3 x hx
  unfold rowB numB at this
  simp only [Bool.and_eq_true, decide_eq_true_eq, List.all_eq_true] at this
  exact this
theorem Sq.eqM {p : Int} {n : Nat} {L : List (List Int)} (h : Sq p n L) : L = mkM n n (ge L) := mkM_eq h.len fun x hx => (h.row x hx).1
theorem Sq.bd {p : Int} {n : Nat} {L : List (List Int)} (hp : pr p) (h : Sq p n L) : Bd p n n (ge L) := fun i j hi hj => gl_bd (pr_le hp).1 (h.row _ (h.mem hi)).2 j
theorem out_sq {p : Int} {n : Nat} (hp : pr p) {M : Nat → List Int} (hM : Mok p n (2 * n) M) (h1 : 1 ≤ n) (h3 : n ≤ 3) : Sq p n (outM n M) := by
  refine ⟨by simp [outM], h1, h3, fun x hx => ?_⟩
  unfold outM at hx
  obtain ⟨k, hk, rfl⟩ := List.mem_map.1 hx
  have hk := List.mem_range.1 hk
  have hl := hM.len k hk
  refine ⟨by rw [List.length_drop]; omega, fun y hy => ?_⟩
  obtain ⟨t, ht, rfl⟩ := List.mem_iff_getElem.1 (List.mem_of_mem_drop hy)
  have := hM.rng k hk t
  rw [gl_nat ht] at this
  exact this
/-- a form between two squares -/
def tri (p : Int) (r c : Nat) (g : Nat → Nat → Int) (f : Form) (h : Nat → Nat → Int) : Form := formM r c fun i l => dotF p (fun i l => dotF p g (fun i j => ent f (i * c + j)) i l r) h i l c
theorem form_bd {p : Int} {f : Form} {r c : Nat} (hp : pr p) (hr : r ≤ 3) (hc : c ≤ 3) (hl : ∀ j, (hj : j < 9) → ((f[j].toNat : Nat) : Int) < p) : Bd p r c (fun i j => ent f (i * c + j)) := by
  intro i j hi hj
  have h1 : i * c + c ≤ r * c := by rw [← Nat.succ_mul]; exact Nat.mul_le_mul_right _ hi
  have h9 := rc_le hr hc
  show 0 ≤ ent f (i * c + j) ∧ ent f (i * c + j) < p
  unfold ent
  rw [vg_nat (show i * c + j < 9 by omega)]
  exact ⟨by omega, hl _ (by omega)⟩
theorem both_i {p : Int} {f : Form} {r c : Nat} {g h : Nat → Nat → Int} (hp : pr p) (hr1 : 1 ≤ r) (hr : r ≤ 3) (hc1 : 1 ≤ c) (hc : c ≤ 3) (hg : Bd p r r g) (hh : Bd p c c h) (hl : ∀ j, (hj : j < 9) → ((f[j].toNat : Nat) : Int) < p) :
    impl_changed_1 (mkM r r g) f (r : Int) (c : Int) (mkM c c h) p = some (tri p r c g f h) := by
  unfold impl_changed_1
  rw [matrix_i f r c hr hc hc1]
  simp only [Option.bind_some]
  rw [mat_mkM, multiply_i hp hg (form_bd hp hr hc hl) hr hr hr1 hc]
  simp only [Option.bind_some]
  rw [multiply_i hp (fun i j _ _ => dotF_bd hp _ _ _ _ _) hh hr hc hc1 hc]
  simp only [Option.bind_some]
  rw [formOf_i hr hc hc1]
  rfl
theorem both_s {p : Int} {f : Form} {r c : Nat} {g h : Nat → Nat → Int} (hp : pr p) (hr1 : 1 ≤ r) (hr : r ≤ 3) (hc1 : 1 ≤ c) (hc : c ≤ 3) (hg : Bd p r r g) (hh : Bd p c c h) (hl : ∀ j, (hj : j < 9) → ((f[j].toNat : Nat) : Int) < p) :
    spec_l04Both p (mkM r r g) f (mkM c c h) = some (tri p r c g f h) := by
  unfold spec_l04Both
  rw [mkM_len, mkM_len, rows_s f hr hc]
  simp only [Option.bind_some]
  rw [mat_mkM, plain_s hp hg (form_bd hp hr hc hl) hr hr hr1 hc]
  simp only [Option.bind_some]
  rw [plain_s hp (fun i j _ _ => dotF_bd hp _ _ _ _ _) hh hr hc hc1 hc]
  simp only [Option.bind_some]
  rw [form_s hr hc hc1]
  rfl
def trp (g : Nat → Nat → Int) : Nat → Nat → Int := fun i j => g j i
theorem Bd.trp {p : Int} {n : Nat} {g : Nat → Nat → Int} (h : Bd p n n g) : Bd p n n (trp g) := fun i j hi hj => h j i hj hi
/-- a product, changed by squares g with inverses h -/
def chP (p : Int) (n m k : Nat) (g1 g2 g3 h1 h2 h3 : Nat → Nat → Int) (q : Prod) : Prod := (tri p n m (trp g1) q.1 (trp h2), tri p m k (trp g2) q.2.1 (trp h3), tri p n k h1 q.2.2 g3)
theorem IsSch.flt {a : Sch} (h : IsSch a) {q : Prod} (hq : q ∈ a.ps) : (∀ j, (hj : j < 9) → ((q.1[j].toNat : Nat) : Int) < a.p) ∧ (∀ j, (hj : j < 9) → ((q.2.1[j].toNat : Nat) : Int) < a.p) ∧ (∀ j, (hj : j < 9) → ((q.2.2[j].toNat : Nat) : Int) < a.p) := by
  have := h.q q hq
  unfold goodP at this
  simp only [Bool.and_eq_true] at this
  exact ⟨goodF_lt this.1.1.1, goodF_lt this.1.1.2, goodF_lt this.1.2⟩
/-- both change alike: a scheme of sizes n, m, k by squares of them with their inverses -/
theorem changed_both {a : Sch} (ha : IsSch a) {n m k : Nat} (hn : a.n = n) (hm : a.m = m) (hk : a.k = k) {L1 L2 L3 : List (List Int)} (s1 : Sq a.p n L1) (s2 : Sq a.p m L2) (s3 : Sq a.p k L3) {M1 M2 M3 : Nat → List Int}
    (g1 : gj a.p n n 0 (augM n L1) = some M1) (g2 : gj a.p m m 0 (augM m L2) = some M2) (g3 : gj a.p k k 0 (augM k L3) = some M3) :
    impl_changed a L1 L2 L3 = some ⟨a.p, a.n, a.m, a.k, a.ps.map (chP a.p n m k (ge L1) (ge L2) (ge L3) (ge (outM n M1)) (ge (outM m M2)) (ge (outM k M3)))⟩ ∧
    spec_l04Change a (L1, L2, L3) (outM n M1, outM m M2, outM k M3) = some ⟨a.p, a.n, a.m, a.k, a.ps.map (chP a.p n m k (ge L1) (ge L2) (ge L3) (ge (outM n M1)) (ge (outM m M2)) (ge (outM k M3)))⟩ := by
  have hp : pr a.p := ha.p
  obtain ⟨i1, o1⟩ := inverted_i hp s1 g1
  obtain ⟨i2, o2⟩ := inverted_i hp s2 g2
  obtain ⟨i3, o3⟩ := inverted_i hp s3 g3
  have n3 := s1.n3
  have m3 := s2.n3
  have k3 := s3.n3
  have n1 := s1.n1
  have m1 := s2.n1
  have k1 := s3.n1
  have q1 := out_sq hp o1 n1 n3
  have q2 := out_sq hp o2 m1 m3
  have q3 := out_sq hp o3 k1 k3
  have t1 : impl_transposed L1 = some (mkM n n (trp (ge L1))) := by rw [s1.eqM, transposed_i n3 n1 n3, ← s1.eqM]; rfl
  have t2 : impl_transposed L2 = some (mkM m m (trp (ge L2))) := by rw [s2.eqM, transposed_i m3 m1 m3, ← s2.eqM]; rfl
  have t3 : impl_transposed (outM m M2) = some (mkM m m (trp (ge (outM m M2)))) := by rw [q2.eqM, transposed_i m3 m1 m3, ← q2.eqM]; rfl
  have t4 : impl_transposed (outM k M3) = some (mkM k k (trp (ge (outM k M3)))) := by rw [q3.eqM, transposed_i k3 k1 k3, ← q3.eqM]; rfl
  have f1 : spec_l04Flip L1 = some (mkM n n (trp (ge L1))) := by rw [s1.eqM, flip_s n3, ← s1.eqM]; rfl
  have f2 : spec_l04Flip L2 = some (mkM m m (trp (ge L2))) := by rw [s2.eqM, flip_s m3, ← s2.eqM]; rfl
  have f3 : spec_l04Flip (outM m M2) = some (mkM m m (trp (ge (outM m M2)))) := by rw [q2.eqM, flip_s m3, ← q2.eqM]; rfl
  have f4 : spec_l04Flip (outM k M3) = some (mkM k k (trp (ge (outM k M3)))) := by rw [q3.eqM, flip_s k3, ← q3.eqM]; rfl
  have e1 := q1.eqM
  have e3 := s3.eqM
  have hl := ha.l
  generalize hF : chP a.p n m k (ge L1) (ge L2) (ge L3) (ge (outM n M1)) (ge (outM m M2)) (ge (outM k M3)) = F
  have hml : (a.ps.map F).length = a.ps.length := List.length_map _
  have hget : ∀ j (hj : j < a.ps.length), (a.ps.map F)[j]'(by omega) = F a.ps[j] := fun j hj => List.getElem_map _
  constructor
  · unfold impl_changed
    rw [t1]
    simp only [Option.bind_some]
    rw [t2]
    simp only [Option.bind_some]
    rw [i2]
    simp only [Option.bind_some]
    rw [t3]
    simp only [Option.bind_some]
    rw [i3]
    simp only [Option.bind_some]
    rw [t4]
    simp only [Option.bind_some]
    rw [i1]
    simp only [Option.bind_some]
    have := iter_up (body := fun s : Int × List Prod => impl_changed_l29 a L3 (mkM n n (trp (ge L1))) (mkM m m (trp (ge L2))) (mkM m m (trp (ge (outM m M2)))) (mkM k k (trp (ge (outM k M3)))) (outM n M1) s.1 s.2) (fun j => ((j : Int), (a.ps.map F).take j)) a.ps.length (s' := ((a.ps.length : Int), a.ps.map F)) (fun j hj => by
      show impl_changed_l29 a L3 _ _ _ _ (outM n M1) (j : Int) ((a.ps.map F).take j) = _
      obtain ⟨l1, l2, l3⟩ := ha.flt (List.getElem_mem hj)
      unfold impl_changed_l29
      rw [dtt (by omega), if_pos rfl, if_pos ⟨by omega, by omega⟩, gl_nat hj, hn, hm, hk, both_i hp n1 n3 m1 m3 (s1.bd hp).trp (q2.bd hp).trp l1]
      simp only [Option.bind_some]
      rw [both_i hp m1 m3 k1 k3 (s2.bd hp).trp (q3.bd hp).trp l2]
      simp only [Option.bind_some]
      have b3 := both_i hp n1 n3 k1 k3 (q1.bd hp) (s3.bd hp) l3
      rw [← e1, ← e3] at b3
      rw [b3]
      simp only [Option.bind_some]
      have e : (tri a.p n m (trp (ge L1)) a.ps[j].1 (trp (ge (outM m M2))), tri a.p m k (trp (ge L2)) a.ps[j].2.1 (trp (ge (outM k M3))), tri a.p n k (ge (outM n M1)) a.ps[j].2.2 (ge L3)) = (a.ps.map F)[j]'(by omega) := by
        rw [hget j hj, ← hF]; rfl
      rw [e, if_pos (by simp; omega), w64s (by omega), List.take_append_getElem (by omega)]) (by
      show impl_changed_l29 a L3 _ _ _ _ (outM n M1) (a.ps.length : Int) ((a.ps.map F).take a.ps.length) = _
      unfold impl_changed_l29
      rw [dff (by omega), if_neg (by decide), List.take_of_length_le (by omega)])
    have h0 : (((0 : Nat) : Int), (a.ps.map F).take 0) = (0, []) := by simp
    rw [h0] at this
    rw [this]
    rfl
  · unfold spec_l04Change spec_l01Empty
    simp only [Option.bind_some]
    have := iter_up (body := fun s : Int × List Prod => spec_l04Change_l5 a (L1, L2, L3) (outM n M1, outM m M2, outM k M3) s.1 s.2) (fun j => ((j : Int), (a.ps.map F).take j)) a.ps.length (s' := ((a.ps.length : Int), a.ps.map F)) (fun j hj => by
      show spec_l04Change_l5 a (L1, L2, L3) (outM n M1, outM m M2, outM k M3) (j : Int) ((a.ps.map F).take j) = _
      obtain ⟨l1, l2, l3⟩ := ha.flt (List.getElem_mem hj)
      unfold spec_l04Change_l5
      dsimp only
      rw [dtt (by omega), if_pos rfl, if_pos ⟨by omega, by omega⟩, gl_nat hj, f1]
      simp only [Option.bind_some]
      rw [f3]
      simp only [Option.bind_some]
      rw [both_s hp n1 n3 m1 m3 (s1.bd hp).trp (q2.bd hp).trp l1]
      simp only [Option.bind_some]
      rw [f2]
      simp only [Option.bind_some]
      rw [f4]
      simp only [Option.bind_some]
      rw [both_s hp m1 m3 k1 k3 (s2.bd hp).trp (q3.bd hp).trp l2]
      simp only [Option.bind_some]
      have b3 := both_s hp n1 n3 k1 k3 (q1.bd hp) (s3.bd hp) l3
      rw [← e1, ← e3] at b3
      rw [b3]
      simp only [Option.bind_some]
      have e : (tri a.p n m (trp (ge L1)) a.ps[j].1 (trp (ge (outM m M2))), tri a.p m k (trp (ge L2)) a.ps[j].2.1 (trp (ge (outM k M3))), tri a.p n k (ge (outM n M1)) a.ps[j].2.2 (ge L3)) = (a.ps.map F)[j]'(by omega) := by
        rw [hget j hj, ← hF]; rfl
      rw [e, if_pos (by simp; omega), w64s (by omega), List.take_append_getElem (by omega)]) (by
      show spec_l04Change_l5 a (L1, L2, L3) (outM n M1, outM m M2, outM k M3) (a.ps.length : Int) ((a.ps.map F).take a.ps.length) = _
      unfold spec_l04Change_l5
      rw [dff (by omega), if_neg (by decide), List.take_of_length_le (by omega)])
    have h0 : (((0 : Nat) : Int), (a.ps.map F).take 0) = (0, []) := by simp
    rw [h0] at this
    rw [this]
    rfl
end Go.Proofs.YtB
