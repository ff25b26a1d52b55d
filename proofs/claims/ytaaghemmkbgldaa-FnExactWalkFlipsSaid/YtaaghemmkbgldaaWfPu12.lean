/- Plain laws: a product split, in both forms. -/
import Derived.Test.YtaaghemmkbgldaaWfPu11
import Derived.Test.YtaaghemmkbgldaaWfG2
import Derived.Test.YtaaghemmkbgldaaWfG3
import Derived.Test.YtaaghemmkbgldaaWfG1
set_option linter.unusedVariables false
set_option linter.unusedSimpArgs false
namespace Go.Proofs.YtB
open Go Go.RowKit Go.Proofs

theorem u8_nat {x : Int} (h0 : 0 ≤ x) (h1 : x < 256) : ((u8 x).toNat : Int) = x := by
  rw [u8_wrap]
  simp [IntKind.wrap, IntKind.signed, IntKind.bits]
  omega
theorem addF_get (p : Int) (f g : Form) (t : Int) {j : Nat} (hj : j < 9) : (addF p f g t)[j] = u8 (((f[j].toNat : Int) + t * (g[j].toNat : Int)) % p) := by simp [addF, addTo, hj]
theorem addF_nat {p : Int} (f g : Form) (t : Int) (hp : 0 < p) (hp2 : p ≤ 255) {j : Nat} (hj : j < 9) : (((addF p f g t)[j]).toNat : Int) = ((f[j].toNat : Int) + t * (g[j].toNat : Int)) % p := by
  have h1 := Int.emod_nonneg ((f[j].toNat : Int) + t * (g[j].toNat : Int)) (show p ≠ 0 by omega)
  have h2 := Int.emod_lt_of_pos ((f[j].toNat : Int) + t * (g[j].toNat : Int)) hp
  rw [addF_get _ _ _ _ hj, u8_nat h1 (by omega)]
theorem addF_lt {p : Int} (f g : Form) (t : Int) (hp : 0 < p) (hp2 : p ≤ 255) {j : Nat} (hj : j < 9) : (((addF p f g t)[j]).toNat : Int) < p := by
  rw [addF_nat f g t hp hp2 hj]
  exact Int.emod_lt_of_pos _ hp
theorem addF_ne {p : Int} {x y : Form} (hp : 0 < p) (hp2 : p ≤ 255) (hx : ∀ j, (hj : j < 9) → ((x[j].toNat : Nat) : Int) < p) (hy : ∀ j, (hj : j < 9) → ((y[j].toNat : Nat) : Int) < p) (hne : x ≠ y) : addF p x y (-1) ≠ zForm := by
  intro h
  apply hne
  apply Vector.ext
  intro j hj
  have h1 := addF_nat x y (-1) hp hp2 hj
  rw [h, get_zero hj] at h1
  have h2 := hx j hj
  have h3 := hy j hj
  have h4 : ((x[j].toNat : Int) + (-1) * (y[j].toNat : Int)) % p = 0 := by rw [← h1]; rfl
  have h5 : ((x[j].toNat : Int) + (-1) * (y[j].toNat : Int)) = 0 := by
    have h6 := Int.emod_add_mul_ediv ((x[j].toNat : Int) + (-1) * (y[j].toNat : Int)) p
    rw [h4] at h6
    have h7 : ((x[j].toNat : Int) + (-1) * (y[j].toNat : Int)) / p = 0 := by
      rcases Int.lt_trichotomy (((x[j].toNat : Int) + (-1) * (y[j].toNat : Int)) / p) 0 with h8 | h8 | h8
      · have : p * (((x[j].toNat : Int) + (-1) * (y[j].toNat : Int)) / p) ≤ p * (-1) := Int.mul_le_mul_of_nonneg_left (by omega) (by omega)
        omega
      · exact h8
      · have : p * 1 ≤ p * (((x[j].toNat : Int) + (-1) * (y[j].toNat : Int)) / p) := Int.mul_le_mul_of_nonneg_left (by omega) (by omega)
        omega
    rw [h7] at h6
    omega
  exact UInt8.toNat_inj.1 (by omega)
theorem filter_nz {L : List Prod} (h : ∀ q ∈ L, nz q = true) : L.filter nz = L := List.filter_eq_self.2 h
theorem nz_iff {q : Prod} : nz q = true ↔ q.1 ≠ zForm ∧ q.2.1 ≠ zForm ∧ q.2.2 ≠ zForm := by
  unfold nz
  simp only [Bool.not_eq_true', Bool.or_eq_false_iff, decide_eq_false_iff_not]
  constructor
  · rintro ⟨⟨h1, h2⟩, h3⟩; exact ⟨h1, h2, h3⟩
  · rintro ⟨h1, h2, h3⟩; exact ⟨⟨h1, h2⟩, h3⟩
def fac (q : Prod) (f : Int) : Form := if f = 0 then q.1 else if f = 1 then q.2.1 else q.2.2
def wit (q : Prod) (f : Int) (x : Form) : Prod := if f = 0 then (x, q.2.1, q.2.2) else if f = 1 then (q.1, x, q.2.2) else (q.1, q.2.1, x)
theorem factor_s (q : Prod) (f : Int) : spec_l03Factor q f = some (fac q f) := by
  unfold spec_l03Factor fac
  by_cases h0 : f = 0
  · simp [h0]
  · by_cases h1 : f = 1 <;> simp [h0, h1]
theorem with_s (q : Prod) (f : Int) (x : Form) : spec_l03With q f x = some (wit q f x) := by
  unfold spec_l03With wit
  by_cases h0 : f = 0
  · simp [h0]
  · by_cases h1 : f = 1 <;> simp [h0, h1]
theorem fac_v (q : Prod) {f : Int} (h0 : 0 ≤ f) (h2 : f ≤ 2) : vg zForm (#v[q.1, q.2.1, q.2.2] : Forms) f = fac q f := by
  have hf3 : f = 0 ∨ f = 1 ∨ f = 2 := by omega
  rcases hf3 with rfl | rfl | rfl <;> rfl
theorem wit_v (q : Prod) {f : Int} (h0 : 0 ≤ f) (h2 : f ≤ 2) (x : Form) : impl_productOf (vs (#v[q.1, q.2.1, q.2.2] : Forms) f x) = some (wit q f x) := by
  have hf3 : f = 0 ∨ f = 1 ∨ f = 2 := by omega
  rcases hf3 with rfl | rfl | rfl <;> rfl
theorem nz_wit {q : Prod} {f : Int} {x : Form} (hq : nz q = true) (hx : x ≠ zForm) : nz (wit q f x) = true := by
  rw [nz_iff] at hq ⊢
  unfold wit
  split
  · exact ⟨hx, hq.2.1, hq.2.2⟩
  · split
    · exact ⟨hq.1, hx, hq.2.2⟩
    · exact ⟨hq.1, hq.2.1, hx⟩
theorem fac_lt {a : Sch} (h : IsSch a) {q : Prod} (hq : q ∈ a.ps) (f : Int) (j : Nat) (hj : j < 9) : (((fac q f)[j].toNat : Nat) : Int) < a.p := by
  obtain ⟨h1, h2, h3⟩ := h.lt hq
  unfold fac
  split
  · exact h1 j hj
  · split
    · exact h2 j hj
    · exact h3 j hj
theorem gl_mem {L : List Prod} {i : Int} (h : 0 ≤ i ∧ i < (L.length : Int)) : gl zProd L i ∈ L := by
  have hi : i.toNat < L.length := by omega
  unfold gl
  rw [List.getD_eq_getElem?_getD, List.getElem?_eq_getElem hi]
  exact List.getElem_mem hi
theorem split_eq (a : Sch) (i f : Int) (x : Form) (ha : a.ps.length ≤ 2097152) : ∃ g e, spec_SplitProduct a i f x = some (g, e) ∧ impl_SplitProduct a i f x = some (g, e) ∧ g.ps.length ≤ 60 := by
  obtain ⟨sx, ix⟩ := scheme_eq3 a (by omega)
  unfold spec_SplitProduct impl_SplitProduct
  rw [sx, ix]
  simp only [Option.bind_some]
  cases hS : schemeB a
  · exact ⟨_, _, rfl, rfl, by simp⟩
  have is := schemeB_is hS
  have hl := is.l
  have hp := is.pp
  simp only [Bool.not_true, Bool.false_eq_true, if_false]
  rw [nums_s a (by omega) _ (by simp), nums_i a _ (by simp)]
  simp only [Option.bind_some]
  cases hb : [i].all (inB a)
  · exact ⟨_, _, rfl, rfl, by simp⟩
  simp only [List.all_cons, List.all_nil, Bool.and_true, Bool.and_eq_true, inB, decide_eq_true_eq] at hb
  simp only [Bool.not_true, Bool.false_eq_true, if_false]
  rw [in_eq]
  simp only [Option.bind_some]
  by_cases f0 : f < 0
  · rw [dtt f0, dff (show ¬ 0 ≤ f by omega)]
    exact ⟨_, _, rfl, rfl, by simp⟩
  rw [dff f0, dtt (show 0 ≤ f by omega)]
  by_cases f2 : 2 < f
  · rw [dtt f2, dff (show ¬ f ≤ 2 by omega)]
    exact ⟨_, _, rfl, rfl, by simp⟩
  rw [dff f2, dtt (show f ≤ 2 by omega)]
  have hpl : ∃ len, spec_l03Length a f = some len ∧ (impl_placesOf a).bind (fun x11 => if 0 ≤ f ∧ f < 3 then ((impl_isForm a.p (vg 0 x11 f) x).bind fun x14 => some (!x14)) else none) = some (!goodF a.p len x) := by
    have hf3 : f = 0 ∨ f = 1 ∨ f = 2 := by omega
    unfold spec_l03Length spec_l01Lengths impl_placesOf
    simp only [Option.bind_some, if_pos (show 0 ≤ f ∧ f < 3 by omega), isForm_eq]
    rcases hf3 with rfl | rfl | rfl
    · exact ⟨_, rfl, rfl⟩
    · exact ⟨_, rfl, rfl⟩
    · exact ⟨_, rfl, rfl⟩
  obtain ⟨len, l1, l2⟩ := hpl
  rw [l1, l2]
  simp only [Bool.false_eq_true, if_false, Bool.and_self, Bool.not_true, Option.bind_some]
  rw [spec_form, isForm_eq]
  simp only [Option.bind_some]
  cases hg : goodF a.p len x
  · exact ⟨_, _, rfl, rfl, by simp⟩
  simp only [Bool.not_true, Bool.false_eq_true, if_false, if_pos hb]
  unfold spec_l01Zero impl_factors
  simp only [Option.bind_some, factor_s, with_s, if_pos (show 0 ≤ f ∧ f < 3 by omega), fac_v _ (show 0 ≤ f by omega) (show f ≤ 2 by omega), wit_v _ (show 0 ≤ f by omega) (show f ≤ 2 by omega)]
  by_cases hz : x = zForm
  · rw [dtt hz]
    exact ⟨_, _, rfl, rfl, by simp⟩
  rw [dff hz]
  have hm := gl_mem hb
  generalize hq : gl zProd a.ps i = q at hm ⊢
  simp only [Bool.false_eq_true, if_false, Option.bind_some]
  by_cases he : x = fac q f
  · rw [dtt he]
    exact ⟨_, _, rfl, rfl, by simp⟩
  rw [dff he]
  simp only [Bool.false_eq_true, if_false, Option.bind_some]
  by_cases h30 : (a.ps.length : Int) = 30
  · rw [dtt h30]
    exact ⟨_, _, rfl, rfl, by simp⟩
  rw [dff h30, clone_eq _ (by omega)]
  simp only [Bool.false_eq_true, if_false, Option.bind_some, List.nil_append, if_pos hb, hq]
  rw [if_pos (by simp only [List.length_nil]; omega), spec_add_eq _ _ hp.1 (by omega) (by omega) (by omega), sum_eq _ _ hp.1 (by omega) (by rw [w64_id (by omega) (by omega)]; omega) (by rw [w64_id (by omega) (by omega)]; omega), show w64 (a.p - 1) = a.p + (-1) by rw [w64_id (by omega) (by omega)]; omega, addF_shift]
  simp only [Option.bind_some, wit_v _ (show 0 ≤ f by omega) (show f ≤ 2 by omega)]
  have hlen : ∀ A B : Prod, ((a.ps.set i.toNat A).length + [B].length) * 27 ≤ 140737488355328 := fun A B => by simp only [List.length_set, List.length_singleton]; omega
  simp only [hlen, if_true]
  rw [told_eq _ _ (by simp only [List.length_append, List.length_set, List.length_singleton]; omega)]
  unfold impl_with
  simp only [Option.bind_some]
  have hnz : ∀ r ∈ a.ps.set i.toNat (wit q f x) ++ [wit q f (addF a.p (fac q f) x (-1))], nz r = true := by
    intro r hr
    rcases List.mem_append.1 hr with h | h
    · rcases List.mem_or_eq_of_mem_set h with h | rfl
      · exact is.nz h
      · exact nz_wit (is.nz hm) hz
    · rw [List.mem_singleton.1 h]
      exact nz_wit (is.nz hm) (addF_ne hp.1 (by omega) (fun j hj => fac_lt is hm f j hj) (fun j hj => goodF_lt hg j hj) (fun h => he h.symm))
  rw [filter_nz hnz]
  exact ⟨_, _, rfl, rfl, by simp only [List.length_append, List.length_set, List.length_singleton]; omega⟩
end Go.Proofs.YtB
