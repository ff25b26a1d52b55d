/- Plain laws: inverses modulo p, leading numbers, normal products. -/
import Derived.Test.YtbmjglgpckfpjaaEqPu13
import Derived.Test.YtbmjglgpckfpjaaEqG1
set_option linter.unusedVariables false
set_option linter.unusedSimpArgs false
namespace Go.Proofs.YtB
open Go Go.RowKit Go.Proofs
def pr (p : Int) : Prop := p = 2 ∨ p = 3 ∨ p = 5
/-- the number with which n makes 1 modulo p -/
def inv (p n : Int) : Int := if (1 * n) % p = 1 then 1 else if (2 * n) % p = 1 then 2 else if (3 * n) % p = 1 then 3 else 4
theorem pn_cases {p n : Int} (hp : pr p) (h0 : 0 < n) (h1 : n < p) : (p = 2 ∧ n = 1) ∨ (p = 3 ∧ n = 1) ∨ (p = 3 ∧ n = 2) ∨ (p = 5 ∧ n = 1) ∨ (p = 5 ∧ n = 2) ∨ (p = 5 ∧ n = 3) ∨ (p = 5 ∧ n = 4) := by
  unfold pr at hp
  omega
theorem inv_range {p n : Int} (hp : pr p) (h0 : 0 < n) (h1 : n < p) : 0 < inv p n ∧ inv p n < p ∧ (inv p n * n) % p = 1 := by
  rcases pn_cases hp h0 h1 with ⟨rfl, rfl⟩ | ⟨rfl, rfl⟩ | ⟨rfl, rfl⟩ | ⟨rfl, rfl⟩ | ⟨rfl, rfl⟩ | ⟨rfl, rfl⟩ | ⟨rfl, rfl⟩ <;> decide
theorem w64_lit {x : Int} (h0 : -1000 ≤ x) (h1 : x ≤ 1000) : w64 x = x := w64_id (by omega) (by omega)
theorem inverse_i {p n : Int} (hp : pr p) (h0 : 0 < n) (h1 : n < p) : impl_inverse p n = some (inv p n) := by
  have step : ∀ s : Int, 1 ≤ s → s ≤ 4 → impl_inverse_l1 p n s = if (s * n) % p = 1 then some (.ret s) else some (.next (s + 1)) := by
    intro s hs0 hs1
    have hsn : 0 ≤ s * n ∧ s * n ≤ 20 := by
      unfold pr at hp
      have h2 : s * n ≤ 4 * n := Int.mul_le_mul_of_nonneg_right hs1 (by omega)
      have h3 : 0 ≤ s * n := Int.mul_nonneg (by omega) (by omega)
      omega
    unfold impl_inverse_l1
    rw [if_pos (by unfold pr at hp; omega), w64_lit (by omega) (by omega), Int.tmod_eq_emod_of_nonneg hsn.1, w64_lit (by omega) (by omega)]
    by_cases h : (s * n) % p = 1
    · rw [dtt h, if_pos h]; rfl
    · rw [dff h, if_neg h]; rfl
  unfold impl_inverse inv
  by_cases a1 : (1 * n) % p = 1
  · rw [iter_ret (r := 1) (by rw [step 1 (by omega) (by omega), if_pos a1]), if_pos a1]; rfl
  rw [iter_next (s' := 2) (by rw [step 1 (by omega) (by omega), if_neg a1]; rfl), if_neg a1]
  by_cases a2 : (2 * n) % p = 1
  · rw [iter_ret (r := 2) (by rw [step 2 (by omega) (by omega), if_pos a2]), if_pos a2]; rfl
  rw [iter_next (s' := 3) (by rw [step 2 (by omega) (by omega), if_neg a2]; rfl), if_neg a2]
  by_cases a3 : (3 * n) % p = 1
  · rw [iter_ret (r := 3) (by rw [step 3 (by omega) (by omega), if_pos a3]), if_pos a3]; rfl
  rw [iter_next (s' := 4) (by rw [step 3 (by omega) (by omega), if_neg a3]; rfl), if_neg a3]
  have a4 : (4 * n) % p = 1 := by
    rcases pn_cases hp h0 h1 with ⟨rfl, rfl⟩ | ⟨rfl, rfl⟩ | ⟨rfl, rfl⟩ | ⟨rfl, rfl⟩ | ⟨rfl, rfl⟩ | ⟨rfl, rfl⟩ | ⟨rfl, rfl⟩ <;> simp_all
  rw [iter_ret (r := 4) (by rw [step 4 (by omega) (by omega), if_pos a4])]; rfl
theorem inverse_s {p n : Int} (hp : pr p) (h0 : 0 < n) (h1 : n < p) : spec_l01Inverse p n = some (inv p n) := by
  have step : ∀ s : Int, 1 ≤ s → s < p → spec_l01Inverse_l1 p n s = if (s * n) % p = 1 then some (.ret s) else some (.next (s + 1)) := by
    intro s hs0 hs1
    have hsn : 0 ≤ s * n ∧ s * n ≤ 20 := by
      unfold pr at hp
      have h2 : s * n ≤ 4 * n := Int.mul_le_mul_of_nonneg_right (by omega) (by omega)
      have h3 : 0 ≤ s * n := Int.mul_nonneg (by omega) (by omega)
      omega
    unfold spec_l01Inverse_l1
    rw [dtt hs1, if_pos rfl, mod_eq (by omega) (by unfold pr at hp; omega) (by omega) (by unfold pr at hp; omega)]
    simp only [Option.bind_some]
    rw [if_pos (by unfold pr at hp; omega), Int.emod_eq_of_lt (by omega) h1, w64_lit (by omega) (by omega), Int.tmod_eq_emod_of_nonneg hsn.1, w64_lit (by omega) (by unfold pr at hp; omega)]
    by_cases h : (s * n) % p = 1
    · rw [dtt h, if_pos h]; rfl
    · rw [dff h, if_neg h]; rfl
  unfold spec_l01Inverse
  rcases pn_cases hp h0 h1 with ⟨rfl, rfl⟩ | ⟨rfl, rfl⟩ | ⟨rfl, rfl⟩ | ⟨rfl, rfl⟩ | ⟨rfl, rfl⟩ | ⟨rfl, rfl⟩ | ⟨rfl, rfl⟩
  · rw [iter_ret (r := 1) (by rw [step 1 (by omega) (by omega)]; rfl)]; rfl
  · rw [iter_ret (r := 1) (by rw [step 1 (by omega) (by omega)]; rfl)]; rfl
  · rw [iter_next (s' := 2) (by rw [step 1 (by omega) (by omega)]; rfl), iter_ret (r := 2) (by rw [step 2 (by omega) (by omega)]; rfl)]; rfl
  · rw [iter_ret (r := 1) (by rw [step 1 (by omega) (by omega)]; rfl)]; rfl
  · rw [iter_next (s' := 2) (by rw [step 1 (by omega) (by omega)]; rfl), iter_next (s' := 3) (by rw [step 2 (by omega) (by omega)]; rfl), iter_ret (r := 3) (by rw [step 3 (by omega) (by omega)]; rfl)]; rfl
  · rw [iter_next (s' := 2) (by rw [step 1 (by omega) (by omega)]; rfl), iter_ret (r := 2) (by rw [step 2 (by omega) (by omega)]; rfl)]; rfl
  · rw [iter_next (s' := 2) (by rw [step 1 (by omega) (by omega)]; rfl), iter_next (s' := 3) (by rw [step 2 (by omega) (by omega)]; rfl), iter_next (s' := 4) (by rw [step 3 (by omega) (by omega)]; rfl), iter_ret (r := 4) (by rw [step 4 (by omega) (by omega)]; rfl)]; rfl

theorem lead_body (f : Form) (j : Nat) (hj : j < 9) : spec_l03Lead_l1 f (j : Int) = if ((f[j].toNat : Nat) : Int) ≠ 0 then some (.ret ((f[j].toNat : Nat) : Int)) else some (.next ((j + 1 : Nat) : Int)) := by
  unfold spec_l03Lead_l1
  simp only [dtt (show (j : Int) < 9 by omega), if_true, if_pos (show 0 ≤ (j : Int) ∧ (j : Int) < 9 by omega), vg_nat hj]
  rw [w64s (by omega)]
  by_cases h : ((f[j].toNat : Nat) : Int) ≠ 0
  · rw [dtt h, if_pos h]; rfl
  · rw [dff h, if_neg h]; rfl
theorem lead_some (f : Form) : ∃ v, spec_l03Lead f = some v ∧ ((f = zForm ∧ v = 0) ∨ ∃ j, ∃ hj : j < 9, f[j] ≠ 0 ∧ (∀ i, (hi : i < 9) → i < j → f[i] = 0) ∧ v = ((f[j].toNat : Nat) : Int)) := by
  have key : ∀ d j : Nat, j + d = 9 → (∀ i, (hi : i < 9) → i < j → f[i] = 0) → ∃ v, ((iter (fun s => spec_l03Lead_l1 f s) (j : Int)).bind fun o => match o with | .stop s2 => (some (0 : Int)) | .ret r => some r | .next _ => none) = some v ∧ ((f = zForm ∧ v = 0) ∨ ∃ j, ∃ hj : j < 9, f[j] ≠ 0 ∧ (∀ i, (hi : i < 9) → i < j → f[i] = 0) ∧ v = ((f[j].toNat : Nat) : Int)) := by
    intro d
    induction d with
    | zero =>
      intro j hj hall
      have : j = 9 := by omega
      subst this
      refine ⟨0, by rw [iter_stop (s' := 9) (by show spec_l03Lead_l1 f 9 = _; unfold spec_l03Lead_l1; rfl)]; rfl, .inl ⟨?_, rfl⟩⟩
      apply Vector.ext
      intro i hi
      rw [hall i hi hi, get_zero hi]
    | succ d ih =>
      intro j hj hall
      have hj9 : j < 9 := by omega
      by_cases h : ((f[j].toNat : Nat) : Int) ≠ 0
      · refine ⟨_, by rw [iter_ret (by rw [lead_body f j hj9, if_pos h])]; rfl, .inr ⟨j, hj9, fun h0 => h (by rw [h0]; rfl), hall, rfl⟩⟩
      · rw [iter_next (by rw [lead_body f j hj9, if_neg h])]
        refine ih (j + 1) (by omega) (fun i hi hij => ?_)
        rcases Nat.lt_or_ge i j with h1 | h1
        · exact hall i hi h1
        · have : i = j := by omega
          subst this
          exact UInt8.toNat_inj.1 (by have : (f[i].toNat : Int) = 0 := Classical.not_not.1 h; simpa using this)
  have := key 9 0 (by omega) (fun i hi h => by omega)
  exact this
noncomputable def ld (f : Form) : Int := (spec_l03Lead f).getD 0
theorem lead_s (f : Form) : spec_l03Lead f = some (ld f) := by
  obtain ⟨v, hv, _⟩ := lead_some f
  unfold ld
  rw [hv]; rfl
theorem lead_i (f : Form) : impl_first f = some (ld f) := by
  rw [← lead_s]
  unfold impl_first spec_l03Lead
  have : (fun s => impl_first_l1 f s) = fun s => spec_l03Lead_l1 f s := by
    funext s
    unfold impl_first_l1 spec_l03Lead_l1
    rfl
  rw [this]
  all_goals rfl
theorem ld_at {f : Form} (h : f ≠ zForm) : ∃ j, ∃ hj : j < 9, f[j] ≠ 0 ∧ (∀ i, (hi : i < 9) → i < j → f[i] = 0) ∧ ld f = ((f[j].toNat : Nat) : Int) := by
  obtain ⟨v, hv, h1 | ⟨j, hj, h1, h2, h3⟩⟩ := lead_some f
  · exact absurd h1.1 h
  · exact ⟨j, hj, h1, h2, by unfold ld; rw [hv]; exact h3⟩
theorem byte_pos {b : UInt8} (h : b ≠ 0) : 0 < (b.toNat : Int) := by
  have : b.toNat ≠ 0 := fun h0 => h (UInt8.toNat_inj.1 (by simpa using h0))
  omega
theorem ld_range {p : Int} {f : Form} (h : f ≠ zForm) (hl : ∀ j, (hj : j < 9) → ((f[j].toNat : Nat) : Int) < p) : 0 < ld f ∧ ld f < p := by
  obtain ⟨j, hj, h1, h2, h3⟩ := ld_at h
  rw [h3]
  exact ⟨byte_pos h1, hl j hj⟩

def mulF (p : Int) (f : Form) (t : Int) : Form := addF p zForm f t
theorem mulF_nat {p : Int} (f : Form) (t : Int) (hp : 0 < p) (hp2 : p ≤ 255) {j : Nat} (hj : j < 9) : (((mulF p f t)[j]).toNat : Int) = (t * (f[j].toNat : Int)) % p := by
  unfold mulF
  rw [addF_nat _ _ _ hp hp2 hj, get_zero hj]
  simp
theorem form_ext {f g : Form} (h : ∀ j, (hj : j < 9) → ((f[j].toNat : Nat) : Int) = ((g[j].toNat : Nat) : Int)) : f = g := by
  apply Vector.ext
  intro j hj
  exact UInt8.toNat_inj.1 (Int.ofNat_inj.1 (h j hj))
theorem mulF_mod (p : Int) (f : Form) (t : Int) (hp : 0 < p) (hp2 : p ≤ 255) : mulF p f (t % p) = mulF p f t := by
  apply form_ext
  intro j hj
  rw [mulF_nat f _ hp hp2 hj, mulF_nat f _ hp hp2 hj, Int.mul_emod, Int.emod_emod_of_dvd _ (Int.dvd_refl p), ← Int.mul_emod]
/-- a product of numbers other than 0 is other than 0 -/
theorem mul_ne {p s x : Int} (hp : pr p) (s0 : 0 < s) (s1 : s < p) (x0 : 0 < x) (x1 : x < p) : (s * x) % p ≠ 0 := by
  rcases pn_cases hp s0 s1 with ⟨rfl, rfl⟩ | ⟨rfl, rfl⟩ | ⟨rfl, rfl⟩ | ⟨rfl, rfl⟩ | ⟨rfl, rfl⟩ | ⟨rfl, rfl⟩ | ⟨rfl, rfl⟩ <;> omega
theorem pr_le {p : Int} (hp : pr p) : 0 < p ∧ p ≤ 255 := by unfold pr at hp; omega
theorem multiple_i {p t : Int} (f : Form) (hp : pr p) (h0 : 0 ≤ t) (h1 : t ≤ 1000) : impl_multiple p f t = some (mulF p f t) := by
  unfold impl_multiple
  rw [sum_eq _ _ (pr_le hp).1 (by have := pr_le hp; omega) h0 (by omega)]
  rfl
theorem scale_s {p t : Int} (f : Form) (hp : pr p) (h0 : -1000 ≤ t) (h1 : t ≤ 1000) : spec_l01Scale p f t = some (mulF p f t) := by
  unfold spec_l01Scale
  rw [spec_add_eq _ _ (pr_le hp).1 (by have := pr_le hp; omega) (by omega) (by omega)]
  rfl

structure Gq (p : Int) (q : Prod) : Prop where
  nz : YtB.nz q = true
  a : ∀ j, (hj : j < 9) → ((q.1[j].toNat : Nat) : Int) < p
  b : ∀ j, (hj : j < 9) → ((q.2.1[j].toNat : Nat) : Int) < p
  c : ∀ j, (hj : j < 9) → ((q.2.2[j].toNat : Nat) : Int) < p
noncomputable def nrm (p : Int) (q : Prod) : Prod := (mulF p q.1 (inv p (ld q.1)), mulF p q.2.1 (inv p (ld q.2.1)), mulF p q.2.2 (ld q.1 * ld q.2.1))
theorem ld_mul {p : Int} {q : Prod} (hp : pr p) (h : Gq p q) : 0 < ld q.1 * ld q.2.1 ∧ ld q.1 * ld q.2.1 ≤ 25 ∧ 0 < (ld q.1 * ld q.2.1) % p ∧ (ld q.1 * ld q.2.1) % p < p := by
  have n := nz_iff.1 h.nz
  have a := ld_range n.1 h.a
  have b := ld_range n.2.1 h.b
  have h1 : 0 < ld q.1 * ld q.2.1 := Int.mul_pos a.1 b.1
  have hp5 : p ≤ 5 := by unfold pr at hp; omega
  have h2 : ld q.1 * ld q.2.1 ≤ 5 * 5 := Int.mul_le_mul (by omega) (by omega) (by omega) (by omega)
  have h3 := mul_ne hp a.1 a.2 b.1 b.2
  have h4 := Int.emod_nonneg (ld q.1 * ld q.2.1) (show p ≠ 0 by have := pr_le hp; omega)
  exact ⟨h1, by omega, by omega, Int.emod_lt_of_pos _ (pr_le hp).1⟩
theorem normal_i {p : Int} {q : Prod} (hp : pr p) (h : Gq p q) : impl_normal p q = some (nrm p q) := by
  have n := nz_iff.1 h.nz
  have a := ld_range n.1 h.a
  have b := ld_range n.2.1 h.b
  have ia := inv_range hp a.1 a.2
  have ib := inv_range hp b.1 b.2
  have hm := ld_mul hp h
  have hp5 : p ≤ 5 := by unfold pr at hp; omega
  unfold impl_normal nrm
  rw [lead_i, lead_i]
  simp only [Option.bind_some]
  rw [inverse_i hp a.1 a.2, inverse_i hp b.1 b.2]
  simp only [Option.bind_some]
  rw [multiple_i _ hp (by omega) (by omega), multiple_i _ hp (by omega) (by omega)]
  simp only [Option.bind_some]
  rw [if_pos (by omega), w64_lit (by omega) (by omega), Int.tmod_eq_emod_of_nonneg (by omega), multiple_i _ hp (by omega) (by omega), mulF_mod _ _ _ (pr_le hp).1 (pr_le hp).2]
  rfl
theorem normal_s {p : Int} {q : Prod} (hp : pr p) (h : Gq p q) : spec_l03Normal p q = some (nrm p q) := by
  have n := nz_iff.1 h.nz
  have a := ld_range n.1 h.a
  have b := ld_range n.2.1 h.b
  have ia := inv_range hp a.1 a.2
  have ib := inv_range hp b.1 b.2
  have hm := ld_mul hp h
  have hp5 : p ≤ 5 := by unfold pr at hp; omega
  unfold spec_l03Normal nrm
  rw [lead_s, lead_s]
  simp only [Option.bind_some]
  rw [inverse_s hp a.1 a.2, inverse_s hp b.1 b.2]
  simp only [Option.bind_some]
  rw [scale_s _ hp (by omega) (by omega)]
  simp only [Option.bind_some]
  rw [scale_s _ hp (by omega) (by omega)]
  simp only [Option.bind_some]
  rw [w64_lit (by omega) (by omega), scale_s _ hp (by omega) (by omega)]
  rfl
end Go.Proofs.YtB
