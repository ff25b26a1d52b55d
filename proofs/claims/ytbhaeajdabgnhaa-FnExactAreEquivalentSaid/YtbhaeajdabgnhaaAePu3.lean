/- Plain laws: the program's and the reference's tests of schemes are the same. -/
import Derived.Test.YtbhaeajdabgnhaaAePu2
import Derived.Test.YtbhaeajdabgnhaaAeG1
set_option linter.unusedVariables false
set_option linter.unusedSimpArgs false
namespace Go.Proofs.YtB
open Go Go.RowKit Go.Proofs
theorem form_body (p : Int) (f : Form) (len : Int) (s : Int) : spec_l01Form_l1 p f len s = impl_isForm_l1 p len f s := by
  unfold spec_l01Form_l1 impl_isForm_l1
  by_cases h1 : s < 9
  · rw [dtt h1, if_pos rfl, if_pos rfl]
    by_cases h2 : 0 ≤ s ∧ s < 9
    · rw [if_pos h2, if_pos h2]
      by_cases h3 : p ≤ ((vg 0 f s).toNat : Int)
      · rw [dtt h3]; rfl
      · rw [dff h3]
        generalize decide (len ≤ s) = x
        generalize decide (((vg 0 f s).toNat : Int) ≠ 0) = y
        cases x <;> cases y <;> rfl
    · rw [if_neg h2, if_neg h2]
      rfl
  · rw [dff h1]; rfl
theorem spec_form (p : Int) (f : Form) (len : Int) : spec_l01Form p f len = impl_isForm p len f := by
  unfold spec_l01Form impl_isForm
  rw [show (fun s => spec_l01Form_l1 p f len s) = (fun s => impl_isForm_l1 p len f s) from funext (form_body p f len)]
  all_goals rfl
theorem form_some (p : Int) (f : Form) (len : Int) : ∃ b, impl_isForm p len f = some b := by
  unfold impl_isForm
  have h := iter_find (body := fun s => impl_isForm_l1 p len f s) (fun j => (j : Int)) 9 (fun j => if h : j < 9 then (if p ≤ ((f[j].toNat : Nat) : Int) then true else if ((f[j].toNat : Nat) : Int) ≠ 0 then decide (len ≤ (j : Int)) else false) else false) false (s' := 9) (fun j hj hb => by
    show impl_isForm_l1 p len f (j : Int) = _
    unfold impl_isForm_l1
    simp only [hj, dite_true] at hb
    rw [dtt (by omega : (j : Int) < 9), if_pos rfl, if_pos (by omega), vg_nat hj]
    by_cases h3 : p ≤ ((f[j].toNat : Nat) : Int)
    · rw [if_pos h3] at hb; cases hb
    · rw [if_neg h3] at hb
      rw [dff h3, if_neg (by decide)]
      by_cases h5 : ((f[j].toNat : Nat) : Int) ≠ 0
      · rw [if_pos h5] at hb
        rw [dtt h5, if_pos rfl, hb]
        simp only [Option.bind_some]
        rw [if_neg (by decide), w64s (by omega)]
      · rw [dff h5, if_neg (by decide)]
        simp only [Option.bind_some]
        rw [if_neg (by decide), w64s (by omega)]) (fun j hj hb => by
    show impl_isForm_l1 p len f (j : Int) = _
    unfold impl_isForm_l1
    simp only [hj, dite_true] at hb
    rw [dtt (by omega : (j : Int) < 9), if_pos rfl, if_pos (by omega), vg_nat hj]
    by_cases h3 : p ≤ ((f[j].toNat : Nat) : Int)
    · rw [dtt h3, if_pos rfl]
      rfl
    · rw [if_neg h3] at hb
      rw [dff h3, if_neg (by decide)]
      by_cases h5 : ((f[j].toNat : Nat) : Int) ≠ 0
      · rw [if_pos h5] at hb
        rw [dtt h5, if_pos rfl, hb]
        rfl
      · rw [if_neg h5] at hb; cases hb) (by
    show impl_isForm_l1 p len f 9 = _
    unfold impl_isForm_l1
    rw [dff (by omega), if_neg (by decide)])
  rw [show ((0 : Nat) : Int) = 0 from rfl] at h
  rw [h]
  split
  · exact ⟨true, rfl⟩
  · exact ⟨false, rfl⟩
/-- a product that belongs to a scheme with these places -/
theorem product_eq (a : Sch) (q : Prod) : ∃ b, spec_l01Product a q = some b ∧ ((impl_placesOf a).bind fun x => impl_isProduct a.p x q) = some b := by
  obtain ⟨b1, h1⟩ := form_some a.p q.1 (w64 (a.n * a.m))
  obtain ⟨b2, h2⟩ := form_some a.p q.2.1 (w64 (a.m * a.k))
  obtain ⟨b3, h3⟩ := form_some a.p q.2.2 (w64 (a.n * a.k))
  let V : Vec3 := #v[w64 (a.n * a.m), w64 (a.m * a.k), w64 (a.n * a.k)]
  let X : Forms := #v[q.1, q.2.1, q.2.2]
  have l0 : impl_isProduct_l3 a.p V X 0 = if b1 then some (.next 1) else some (.ret false) := by
    unfold impl_isProduct_l3
    rw [dtt (by omega : (0 : Int) < 3), if_pos rfl, if_pos (by omega), show vg 0 V 0 = w64 (a.n * a.m) from rfl, show vg zForm X 0 = q.1 from rfl, h1]
    cases b1 <;> rfl
  have l1 : impl_isProduct_l3 a.p V X 1 = if b2 then some (.next 2) else some (.ret false) := by
    unfold impl_isProduct_l3
    rw [dtt (by omega : (1 : Int) < 3), if_pos rfl, if_pos (by omega), show vg 0 V 1 = w64 (a.m * a.k) from rfl, show vg zForm X 1 = q.2.1 from rfl, h2]
    cases b2 <;> rfl
  have l2 : impl_isProduct_l3 a.p V X 2 = if b3 then some (.next 3) else some (.ret false) := by
    unfold impl_isProduct_l3
    rw [dtt (by omega : (2 : Int) < 3), if_pos rfl, if_pos (by omega), show vg 0 V 2 = w64 (a.n * a.k) from rfl, show vg zForm X 2 = q.2.2 from rfl, h3]
    cases b3 <;> rfl
  have l3 : impl_isProduct_l3 a.p V X 3 = some (.stop 3) := by
    unfold impl_isProduct_l3
    rfl
  have hz : impl_hasZero q = some (decide (q.1 = zForm) || decide (q.2.1 = zForm) || decide (q.2.2 = zForm)) := by
    unfold impl_hasZero
    by_cases z1 : q.1 = zForm <;> by_cases z2 : q.2.1 = zForm <;> simp [z1, z2]
  refine ⟨(b1 && b2 && b3) && !(decide (q.1 = zForm) || decide (q.2.1 = zForm) || decide (q.2.2 = zForm)), ?_, ?_⟩
  · unfold spec_l01Product spec_l01Lengths spec_l01Zero
    simp only [Option.bind_some, spec_form, h1, h2, h3]
    cases b1 <;> cases b2 <;> cases b3 <;> by_cases z1 : q.1 = zForm <;> by_cases z2 : q.2.1 = zForm <;> by_cases z3 : q.2.2 = zForm <;> simp [z1, z2, z3]
  · unfold impl_placesOf
    simp only [Option.bind_some]
    show impl_isProduct a.p V q = _
    unfold impl_isProduct impl_factors
    simp only [Option.bind_some]
    show ((iter (fun s => impl_isProduct_l3 a.p V X s) 0).bind _) = _
    cases b1
    · rw [iter_ret (r := false) (by rw [l0]; rfl)]
      rfl
    · rw [iter_next (s' := 1) (by rw [l0]; rfl)]
      cases b2
      · rw [iter_ret (r := false) (by rw [l1]; rfl)]
        rfl
      · rw [iter_next (s' := 2) (by rw [l1]; rfl)]
        cases b3
        · rw [iter_ret (r := false) (by rw [l2]; rfl)]
          rfl
        · rw [iter_next (s' := 3) (by rw [l2]; rfl), iter_stop (by rw [l3])]
          simp only [Option.bind_some, hz]
          simp
def sizeB (x : Int) : Bool := decide (1 ≤ x) && decide (x ≤ 3)
theorem size_eq (x y z : Int) : impl_isSize [x, y, z] = some (sizeB x && sizeB y && sizeB z) := by
  unfold impl_isSize
  have g0 : gl 0 [x, y, z] 0 = x := rfl
  have g1 : gl 0 [x, y, z] 1 = y := rfl
  have g2 : gl 0 [x, y, z] 2 = z := rfl
  have step : ∀ (j : Int) (v : Int), 0 ≤ j → j < 3 → gl 0 [x, y, z] j = v → impl_isSize_l1 [x, y, z] j = if sizeB v then some (.next (w64 (j + 1))) else some (.ret false) := by
    intro j v h0 h1 hv
    unfold impl_isSize_l1
    have hl : (([x, y, z] : List Int).length : Int) = 3 := rfl
    rw [hl, dtt h1, if_pos rfl, if_pos ⟨h0, h1⟩, hv]
    unfold sizeB
    by_cases a1 : v < 1 <;> by_cases a2 : 3 < v
    · omega
    · simp [a1, show ¬ 1 ≤ v by omega]
    · simp [a1, a2, show ¬ v ≤ 3 by omega]
    · simp [a1, a2, show 1 ≤ v by omega, show v ≤ 3 by omega]
  have s0 := step 0 x (by omega) (by omega) g0
  have s1 := step 1 y (by omega) (by omega) g1
  have s2 := step 2 z (by omega) (by omega) g2
  have s3 : impl_isSize_l1 [x, y, z] 3 = some (.stop 3) := rfl
  cases hx : sizeB x
  · rw [iter_ret (r := false) (by rw [s0, hx]; rfl)]
    rfl
  · rw [iter_next (s' := 1) (by rw [s0, hx]; rfl)]
    cases hy : sizeB y
    · rw [iter_ret (r := false) (by rw [s1, hy]; rfl)]
      rfl
    · rw [iter_next (s' := 2) (by rw [s1, hy]; rfl)]
      cases hz : sizeB z
      · rw [iter_ret (r := false) (by rw [s2, hz]; rfl)]
        rfl
      · rw [iter_next (s' := 3) (by rw [s2, hz]; rfl), iter_stop s3]
        rfl
def primeB (p : Int) : Bool := decide (p = 2) || decide (p = 3) || decide (p = 5)
theorem prime_i (p : Int) : impl_isPrime p = some (primeB p) := by
  unfold impl_isPrime primeB
  by_cases h1 : p = 2 <;> by_cases h2 : p = 3 <;> simp [h1, h2]
theorem prime_s (p : Int) : spec_l01Prime p = some (primeB p) := by
  unfold spec_l01Prime primeB
  by_cases h1 : p = 2 <;> by_cases h2 : p = 3 <;> simp [h1, h2]
theorem in_s (x : Int) : spec_l01In x 1 3 = some (sizeB x) := by
  unfold spec_l01In sizeB
  by_cases h1 : 1 ≤ x <;> simp [h1]
theorem sizes_s (a b c d : Int) : spec_l01Sizes a b c d = some (primeB a && sizeB b && sizeB c && sizeB d) := by
  unfold spec_l01Sizes
  rw [prime_s, in_s, in_s, in_s]
  cases primeB a <;> cases sizeB b <;> cases sizeB c <;> simp
/-- what both call a scheme -/
theorem scheme_eq (a : Sch) (hl : a.ps.length < 9223372036854775807) : ∃ b, spec_l01Is a = some b ∧ impl_IsScheme a = some b ∧ (b = true → (1 ≤ a.n ∧ a.n ≤ 3) ∧ (1 ≤ a.m ∧ a.m ≤ 3) ∧ (1 ≤ a.k ∧ a.k ≤ 3) ∧ a.ps.length ≤ 30) := by
  have body : (fun s => spec_l01Is_l7 a s) = (fun s => impl_IsScheme_l10 a s) := by
    funext s
    unfold spec_l01Is_l7 impl_IsScheme_l10
    by_cases h1 : s < (a.ps.length : Int)
    · rw [dtt h1, if_pos rfl, if_pos rfl]
      by_cases h2 : 0 ≤ s ∧ s < (a.ps.length : Int)
      · rw [if_pos h2, if_pos h2]
        obtain ⟨b, e1, e2⟩ := product_eq a (gl zProd a.ps s)
        rw [e1]
        rw [← Option.bind_assoc, e2]
      · rw [if_neg h2, if_neg h2]
    · rw [dff h1]; rfl
  have tot : ∃ b, ((iter (fun s => impl_IsScheme_l10 a s) 0).bind fun o => match o with | .stop s11 => (some (true)) | .ret r => some r | .next _ => none) = some b := by
    have hB : ∀ j : Nat, ∃ b, spec_l01Product a (gl zProd a.ps (j : Int)) = some b ∧ ((impl_placesOf a).bind fun x => impl_isProduct a.p x (gl zProd a.ps (j : Int))) = some b := fun j => product_eq a _
    have h := iter_find (body := fun s => impl_IsScheme_l10 a s) (fun j => (j : Int)) a.ps.length (fun j => !(Classical.choose (hB j))) false (s' := (a.ps.length : Int)) (fun j hj hb => by
      show impl_IsScheme_l10 a (j : Int) = _
      unfold impl_IsScheme_l10
      rw [dtt (by omega : (j : Int) < a.ps.length), if_pos rfl, if_pos (by omega), ← Option.bind_assoc, (Classical.choose_spec (hB j)).2]
      simp only [Option.bind_some]
      rw [hb, if_neg (by decide), w64s (by omega)]) (fun j hj hb => by
      show impl_IsScheme_l10 a (j : Int) = _
      unfold impl_IsScheme_l10
      rw [dtt (by omega : (j : Int) < a.ps.length), if_pos rfl, if_pos (by omega), ← Option.bind_assoc, (Classical.choose_spec (hB j)).2]
      simp only [Option.bind_some]
      rw [hb, if_pos rfl]) (by
      show impl_IsScheme_l10 a (a.ps.length : Int) = _
      unfold impl_IsScheme_l10
      rw [dff (by omega), if_neg (by decide)])
    rw [show ((0 : Nat) : Int) = 0 from rfl] at h
    rw [h]
    split
    · exact ⟨true, rfl⟩
    · exact ⟨false, rfl⟩
  obtain ⟨b, hb⟩ := tot
  unfold spec_l01Is impl_IsScheme
  rw [sizes_s, prime_i, size_eq, body]
  simp only [Option.bind_some]
  cases hp : primeB a.p
  · exact ⟨false, rfl, rfl, fun h => by cases h⟩
  · cases hs : sizeB a.n && sizeB a.m && sizeB a.k
    · refine ⟨false, ?_, ?_, fun h => by cases h⟩
      · have : (true && sizeB a.n && sizeB a.m && sizeB a.k) = false := by rw [Bool.true_and]; exact hs
        rw [this]; rfl
      · rfl
    · have e : (true && sizeB a.n && sizeB a.m && sizeB a.k) = true := by rw [Bool.true_and]; exact hs
      rw [e]
      simp only [Bool.not_true, Bool.false_eq_true, if_false, Option.bind_some]
      by_cases h30 : 30 < (a.ps.length : Int)
      · rw [dtt h30]
        exact ⟨false, rfl, rfl, fun h => by cases h⟩
      · rw [dff h30]
        simp only [Bool.false_eq_true, if_false]
        refine ⟨b, hb, hb, fun _ => ?_⟩
        simp only [sizeB, Bool.and_eq_true, decide_eq_true_eq] at hs
        exact ⟨hs.1.1, hs.1.2, hs.2, by omega⟩
end Go.Proofs.YtB
