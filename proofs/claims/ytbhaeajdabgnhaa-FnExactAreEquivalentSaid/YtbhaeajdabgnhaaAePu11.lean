/- Plain laws: what a form, a product, a scheme is, as a truth value. -/
import Derived.Test.YtbhaeajdabgnhaaAePu10
import Derived.Test.YtbhaeajdabgnhaaAeG1
set_option linter.unusedVariables false
set_option linter.unusedSimpArgs false
namespace Go.Proofs.YtB
open Go Go.RowKit Go.Proofs
theorem iter_all {σ ρ : Type} {body : σ → Option (LR σ ρ)} (f : Nat → σ) (n : Nat) (ok : Nat → Bool) (r : ρ) {s' : σ} (h : ∀ j, j < n → body (f j) = if ok j then some (.next (f (j + 1))) else some (.ret r)) (hs : body (f n) = some (.stop s')) :
    iter body (f 0) = if (List.range n).all ok then some (.stop s') else some (.ret r) := by
  have := iter_find (body := body) f n (fun j => !ok j) r (fun j hj hb => by rw [h j hj]; simp at hb; rw [hb]; rfl) (fun j hj hb => by rw [h j hj]; simp at hb; rw [hb]; rfl) hs
  simpa using this
def okF (p len : Int) (f : Form) (j : Nat) : Bool := if h : j < 9 then decide (((f[j].toNat : Nat) : Int) < p) && (decide (((f[j].toNat : Nat) : Int) = 0) || decide ((j : Int) < len)) else true
def goodF (p len : Int) (f : Form) : Bool := (List.range 9).all (okF p len f)
theorem isForm_eq (p len : Int) (f : Form) : impl_isForm p len f = some (goodF p len f) := by
  unfold impl_isForm
  have h := iter_all (body := fun s => impl_isForm_l1 p len f s) (fun j => (j : Int)) 9 (okF p len f) false (s' := 9) (fun j hj => by
    show impl_isForm_l1 p len f (j : Int) = _
    unfold impl_isForm_l1 okF
    simp only [dtt (show (j : Int) < 9 by omega), if_pos (show 0 ≤ (j : Int) ∧ (j : Int) < 9 by omega), vg_nat hj, dif_pos hj, if_true]
    by_cases h3 : p ≤ ((f[j].toNat : Nat) : Int)
    · rw [dtt h3, dff (show ¬ ((f[j].toNat : Nat) : Int) < p by omega)]
      rfl
    · rw [dff h3, dtt (show ((f[j].toNat : Nat) : Int) < p by omega)]
      by_cases h4 : ((f[j].toNat : Nat) : Int) = 0
      · simp only [h4, ne_eq, not_true_eq_false, decide_false, decide_true, Bool.false_eq_true, if_false, Option.bind_some, Bool.true_or, Bool.and_self, if_true]
        rw [w64s (by omega)]
      · by_cases h5 : len ≤ (j : Int)
        · simp only [h4, ne_eq, not_false_eq_true, decide_true, decide_false, if_true, Bool.false_eq_true, if_false, h5, Option.bind_some, show ¬ (j : Int) < len by omega, Bool.or_self, Bool.and_false]
        · simp only [h4, ne_eq, not_false_eq_true, decide_true, decide_false, if_true, Bool.false_eq_true, if_false, h5, Option.bind_some, show (j : Int) < len by omega, Bool.or_true, Bool.and_self]
          rw [w64s (by omega)]) (by
    show impl_isForm_l1 p len f 9 = _
    unfold impl_isForm_l1
    rw [dff (by omega), if_neg (by decide)])
  rw [show ((0 : Nat) : Int) = 0 from rfl] at h
  rw [h]
  unfold goodF
  cases (List.range 9).all (okF p len f) <;> rfl
theorem goodF_lt {p len : Int} {f : Form} (h : goodF p len f = true) (j : Nat) (hj : j < 9) : ((f[j].toNat : Nat) : Int) < p := by
  have := List.all_eq_true.1 h j (List.mem_range.2 hj)
  unfold okF at this
  simp only [dif_pos hj, Bool.and_eq_true, decide_eq_true_eq] at this
  exact this.1
def goodP (a : Sch) (q : Prod) : Bool := goodF a.p (w64 (a.n * a.m)) q.1 && goodF a.p (w64 (a.m * a.k)) q.2.1 && goodF a.p (w64 (a.n * a.k)) q.2.2 && nz q
theorem isProduct_eq (a : Sch) (q : Prod) : ((impl_placesOf a).bind fun x => impl_isProduct a.p x q) = some (goodP a q) := by
  unfold impl_placesOf impl_isProduct impl_factors
  simp only [Option.bind_some]
  have e0 : impl_isProduct_l3 a.p (#v[w64 (a.n * a.m), w64 (a.m * a.k), w64 (a.n * a.k)] : Vec3) (#v[q.1, q.2.1, q.2.2] : Forms) 0 = if goodF a.p (w64 (a.n * a.m)) q.1 then some (.next 1) else some (.ret false) := by
    unfold impl_isProduct_l3
    simp only [show vg 0 (#v[w64 (a.n * a.m), w64 (a.m * a.k), w64 (a.n * a.k)] : Vec3) 0 = w64 (a.n * a.m) from rfl, show vg zForm (#v[q.1, q.2.1, q.2.2] : Forms) 0 = q.1 from rfl, isForm_eq, in3_0, if_true, Option.bind_some, show decide ((0 : Int) < 3) = true from rfl]
    cases goodF a.p (w64 (a.n * a.m)) q.1 <;> rfl
  have e1 : impl_isProduct_l3 a.p (#v[w64 (a.n * a.m), w64 (a.m * a.k), w64 (a.n * a.k)] : Vec3) (#v[q.1, q.2.1, q.2.2] : Forms) 1 = if goodF a.p (w64 (a.m * a.k)) q.2.1 then some (.next 2) else some (.ret false) := by
    unfold impl_isProduct_l3
    simp only [show vg 0 (#v[w64 (a.n * a.m), w64 (a.m * a.k), w64 (a.n * a.k)] : Vec3) 1 = w64 (a.m * a.k) from rfl, show vg zForm (#v[q.1, q.2.1, q.2.2] : Forms) 1 = q.2.1 from rfl, isForm_eq, in3_1, if_true, Option.bind_some, show decide ((1 : Int) < 3) = true from rfl]
    cases goodF a.p (w64 (a.m * a.k)) q.2.1 <;> rfl
  have e2 : impl_isProduct_l3 a.p (#v[w64 (a.n * a.m), w64 (a.m * a.k), w64 (a.n * a.k)] : Vec3) (#v[q.1, q.2.1, q.2.2] : Forms) 2 = if goodF a.p (w64 (a.n * a.k)) q.2.2 then some (.next 3) else some (.ret false) := by
    unfold impl_isProduct_l3
    simp only [show vg 0 (#v[w64 (a.n * a.m), w64 (a.m * a.k), w64 (a.n * a.k)] : Vec3) 2 = w64 (a.n * a.k) from rfl, show vg zForm (#v[q.1, q.2.1, q.2.2] : Forms) 2 = q.2.2 from rfl, isForm_eq, in3_2, if_true, Option.bind_some, show decide ((2 : Int) < 3) = true from rfl]
    cases goodF a.p (w64 (a.n * a.k)) q.2.2 <;> rfl
  have e3 : impl_isProduct_l3 a.p (#v[w64 (a.n * a.m), w64 (a.m * a.k), w64 (a.n * a.k)] : Vec3) (#v[q.1, q.2.1, q.2.2] : Forms) 3 = some (.stop 3) := by
    unfold impl_isProduct_l3
    rfl
  unfold goodP
  cases h0 : goodF a.p (w64 (a.n * a.m)) q.1
  · rw [iter_ret (r := false) (by rw [e0, h0]; rfl)]; rfl
  · rw [iter_next (s' := 1) (by rw [e0, h0]; rfl)]
    cases h1 : goodF a.p (w64 (a.m * a.k)) q.2.1
    · rw [iter_ret (r := false) (by rw [e1, h1]; rfl)]; rfl
    · rw [iter_next (s' := 2) (by rw [e1, h1]; rfl)]
      cases h2 : goodF a.p (w64 (a.n * a.k)) q.2.2
      · rw [iter_ret (r := false) (by rw [e2, h2]; rfl)]; rfl
      · rw [iter_next (s' := 3) (by rw [e2, h2]; rfl), iter_stop e3]
        simp only [Option.bind_some, hasZero_eq, Bool.not_not, Bool.true_and]
def schemeB (a : Sch) : Bool := primeB a.p && (sizeB a.n && sizeB a.m && sizeB a.k) && decide (a.ps.length ≤ 30) && a.ps.all (goodP a)
theorem isScheme_eq (a : Sch) (hl : a.ps.length < 9223372036854775807) : impl_IsScheme a = some (schemeB a) := by
  unfold impl_IsScheme schemeB
  rw [prime_i, size_eq]
  simp only [Option.bind_some]
  cases primeB a.p
  · rfl
  cases sizeB a.n && sizeB a.m && sizeB a.k
  · rfl
  simp only [Bool.not_true, Bool.false_eq_true, if_false, Bool.and_self, Bool.true_and]
  by_cases h30 : a.ps.length ≤ 30
  · rw [dff (show ¬ (30 : Int) < a.ps.length by omega), dtt h30]
    have h := iter_all (body := fun s => impl_IsScheme_l10 a s) (fun j => (j : Int)) a.ps.length (fun j => if h : j < a.ps.length then goodP a a.ps[j] else true) false (s' := (a.ps.length : Int)) (fun j hj => by
      show impl_IsScheme_l10 a (j : Int) = _
      unfold impl_IsScheme_l10
      simp only [dtt (show (j : Int) < a.ps.length by omega), if_pos (show 0 ≤ (j : Int) ∧ (j : Int) < a.ps.length by omega), gl_nat hj, dif_pos hj, if_true]
      have := isProduct_eq a a.ps[j]
      cases hp : impl_placesOf a with
      | none => rw [hp] at this; cases this
      | some x =>
        rw [hp] at this
        simp only [Option.bind_some] at this ⊢
        rw [this]
        simp only [Option.bind_some]
        rw [w64s (by omega)]
        cases goodP a a.ps[j] <;> rfl) (by
      show impl_IsScheme_l10 a (a.ps.length : Int) = _
      unfold impl_IsScheme_l10
      rw [dff (by omega), if_neg (by decide)])
    rw [show ((0 : Nat) : Int) = 0 from rfl] at h
    simp only [Bool.false_eq_true, if_false, Option.bind_some, Bool.true_and]
    rw [h]
    have e : (List.range a.ps.length).all (fun j => if h : j < a.ps.length then goodP a a.ps[j] else true) = a.ps.all (goodP a) := by
      apply Bool.eq_iff_iff.2
      simp only [List.all_eq_true, List.mem_range]
      constructor
      · intro h q hq
        obtain ⟨t, ht, rfl⟩ := List.getElem_of_mem hq
        simpa [ht] using h t ht
      · intro h j hj
        simpa [hj] using h _ (List.getElem_mem hj)
    rw [e]
    cases a.ps.all (goodP a) <;> rfl
  · rw [dtt (show (30 : Int) < a.ps.length by omega), dff h30]
    rfl
/-- what both call a scheme -/
theorem scheme_eq3 (a : Sch) (hl : a.ps.length < 9223372036854775807) : spec_l01Is a = some (schemeB a) ∧ impl_IsScheme a = some (schemeB a) := by
  obtain ⟨b, h1, h2, _⟩ := scheme_eq a hl
  have h3 := isScheme_eq a hl
  rw [h2] at h3
  injection h3 with h3
  rw [← h3]
  exact ⟨h1, h2⟩
structure IsSch (a : Sch) : Prop where
  p : a.p = 2 ∨ a.p = 3 ∨ a.p = 5
  n : 1 ≤ a.n ∧ a.n ≤ 3
  m : 1 ≤ a.m ∧ a.m ≤ 3
  k : 1 ≤ a.k ∧ a.k ≤ 3
  l : a.ps.length ≤ 30
  q : ∀ q ∈ a.ps, goodP a q = true
theorem schemeB_is {a : Sch} (h : schemeB a = true) : IsSch a := by
  unfold schemeB primeB sizeB at h
  simp only [Bool.and_eq_true, Bool.or_eq_true, decide_eq_true_eq, List.all_eq_true] at h
  obtain ⟨⟨⟨hp, hn⟩, hl⟩, hq⟩ := h
  exact ⟨by omega, by omega, by omega, by omega, hl, hq⟩
theorem IsSch.nz {a : Sch} (h : IsSch a) {q : Prod} (hq : q ∈ a.ps) : YtB.nz q = true := by
  have := h.q q hq
  unfold goodP at this
  simp only [Bool.and_eq_true] at this
  exact this.2
theorem IsSch.lt {a : Sch} (h : IsSch a) {q : Prod} (hq : q ∈ a.ps) : (∀ j, (hj : j < 9) → ((q.1[j].toNat : Nat) : Int) < a.p) ∧ (∀ j, (hj : j < 9) → ((q.2.1[j].toNat : Nat) : Int) < a.p) ∧ (∀ j, (hj : j < 9) → ((q.2.2[j].toNat : Nat) : Int) < a.p) := by
  have := h.q q hq
  unfold goodP at this
  simp only [Bool.and_eq_true] at this
  exact ⟨fun j hj => goodF_lt this.1.1.1 j hj, fun j hj => goodF_lt this.1.1.2 j hj, fun j hj => goodF_lt this.1.2 j hj⟩
end Go.Proofs.YtB
