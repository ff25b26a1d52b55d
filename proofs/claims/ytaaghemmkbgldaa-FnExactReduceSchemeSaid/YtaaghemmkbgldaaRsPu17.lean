/- Plain laws: normal lists; which multiple a form is; two products made one. -/
import Derived.Test.YtaaghemmkbgldaaRsPu16
import Derived.Test.YtaaghemmkbgldaaRsG3
import Derived.Test.YtaaghemmkbgldaaRsG1
set_option linter.unusedVariables false
set_option linter.unusedSimpArgs false
namespace Go.Proofs.YtB
open Go Go.RowKit Go.Proofs
/-- a loop that maps a list -/
theorem iter_map {β γ ρ : Type} {body : Int × List γ → Option (LR (Int × List γ) ρ)} (l : List β) (f : β → γ) (hl : l.length ≤ 1000) (h : ∀ (j : Nat) acc, (hj : j < l.length) → acc.length ≤ 1000 → body ((j : Int), acc) = some (.next (((j + 1 : Nat) : Int), acc ++ [f l[j]]))) (hs : ∀ acc, body ((l.length : Int), acc) = some (.stop ((l.length : Int), acc))) :
    iter body (0, []) = some (.stop ((l.length : Int), l.map f)) := by
  have := iter_up (body := body) (fun j => ((j : Int), (l.take j).map f)) l.length (s' := ((l.length : Int), l.map f)) (fun j hj => by
    rw [h j _ hj (by simp; omega), ← List.take_append_getElem hj, List.map_append]
    rfl) (by rw [hs, List.take_length])
  simpa using this
theorem normals_i (a : Sch) (hp : pr a.p) (hl : a.ps.length ≤ 60) (hg : ∀ q ∈ a.ps, Gq a.p q) : impl_normals a = some ⟨a.p, a.n, a.m, a.k, a.ps.map (nrm a.p)⟩ := by
  unfold impl_normals
  have h := iter_map (ρ := Sch) (body := fun s : Int × List Prod => impl_normals_l1 a s.1 s.2) a.ps (nrm a.p) (by omega) (fun j acc hj hacc => by
    show impl_normals_l1 a (j : Int) acc = _
    unfold impl_normals_l1
    simp only [dtt (show (j : Int) < a.ps.length by omega), if_true, if_pos (show 0 ≤ (j : Int) ∧ (j : Int) < a.ps.length by omega), gl_nat hj, normal_i hp (hg _ (List.getElem_mem hj)), Option.bind_some]
    rw [if_pos (by simp only [List.length_singleton]; omega), w64s (by omega)]) (fun acc => by
    show impl_normals_l1 a (a.ps.length : Int) acc = _
    unfold impl_normals_l1
    rw [dff (by omega), if_neg (by decide)])
  rw [h]
  rfl
theorem normals_s (a : Sch) (hp : pr a.p) (hl : a.ps.length ≤ 60) (hg : ∀ q ∈ a.ps, Gq a.p q) : spec_l03AllNormal a = some ⟨a.p, a.n, a.m, a.k, a.ps.map (nrm a.p)⟩ := by
  unfold spec_l03AllNormal spec_l01Empty
  simp only [Option.bind_some]
  have h := iter_map (ρ := Sch) (body := fun s : Int × List Prod => spec_l03AllNormal_l5 a s.1 s.2) a.ps (nrm a.p) (by omega) (fun j acc hj hacc => by
    show spec_l03AllNormal_l5 a (j : Int) acc = _
    unfold spec_l03AllNormal_l5
    simp only [dtt (show (j : Int) < a.ps.length by omega), if_true, if_pos (show 0 ≤ (j : Int) ∧ (j : Int) < a.ps.length by omega), gl_nat hj, normal_s hp (hg _ (List.getElem_mem hj)), Option.bind_some]
    rw [if_pos (by simp only [List.length_singleton]; omega), w64s (by omega)]) (fun acc => by
    show spec_l03AllNormal_l5 a (a.ps.length : Int) acc = _
    unfold spec_l03AllNormal_l5
    rw [dff (by omega), if_neg (by decide)])
  rw [h]
  rfl
/-- the number t with which g is t times f; 0 if there is none -/
noncomputable def tms (p : Int) (f g : Form) : Int := if mulF p f ((ld g * inv p (ld f)) % p) = g then (ld g * inv p (ld f)) % p else 0
theorem tms_range {p : Int} (f g : Form) (hp : pr p) : 0 ≤ tms p f g ∧ tms p f g < p := by
  have l := pr_le hp
  unfold tms
  split
  · exact ⟨Int.emod_nonneg _ (by omega), Int.emod_lt_of_pos _ l.1⟩
  · omega
theorem mul_pos_le {a b : Int} (a0 : 0 < a) (a1 : a ≤ 5) (b0 : 0 < b) (b1 : b ≤ 5) : 0 < a * b ∧ a * b ≤ 25 := by
  have h1 := Int.mul_pos a0 b0
  have h2 : a * b ≤ 5 * 5 := Int.mul_le_mul a1 b1 (by omega) (by omega)
  omega
theorem times_s {p : Int} {f g : Form} (hp : pr p) (hf : f ≠ zForm) (hfl : ∀ j, (hj : j < 9) → ((f[j].toNat : Nat) : Int) < p) (hg : g ≠ zForm) (hgl : ∀ j, (hj : j < 9) → ((g[j].toNat : Nat) : Int) < p) : spec_l03Times p f g = some (tms p f g) := by
  have l := pr_le hp
  have hp5 : p ≤ 5 := by unfold pr at hp; omega
  have a := ld_range hf hfl
  have b := ld_range hg hgl
  have ia := inv_range hp a.1 a.2
  have hm := mul_pos_le b.1 (by omega) ia.1 (by omega)
  have hr := Int.emod_nonneg (ld g * inv p (ld f)) (show p ≠ 0 by omega)
  have hr2 := Int.emod_lt_of_pos (ld g * inv p (ld f)) l.1
  unfold spec_l03Times tms
  rw [lead_s, lead_s]
  simp only [Option.bind_some]
  rw [inverse_s hp a.1 a.2]
  simp only [Option.bind_some]
  rw [if_pos (by omega), w64_lit (by omega) (by omega), Int.tmod_eq_emod_of_nonneg (by omega), scale_s _ hp (by omega) (by omega)]
  simp only [Option.bind_some]
  by_cases h : mulF p f ((ld g * inv p (ld f)) % p) = g
  · rw [dff (by simpa using h), if_pos h]; rfl
  · rw [dtt h, if_neg h]; rfl
/-- g = s f leaves only one s -/
theorem tms_of {p s : Int} {f g : Form} (hp : pr p) (hf : f ≠ zForm) (hfl : ∀ j, (hj : j < 9) → ((f[j].toNat : Nat) : Int) < p) (s0 : 0 < s) (s1 : s < p) (h : mulF p f s = g) : tms p f g = s := by
  have l := pr_le hp
  have a := ld_range hf hfl
  have ia := inv_range hp a.1 a.2
  have hl : ld g = (s * ld f) % p := by rw [← h]; exact mulF_ld hp s0 s1 hf hfl
  have e : (ld g * inv p (ld f)) % p = s := by
    rw [hl, Int.mul_emod, Int.emod_emod_of_dvd _ (Int.dvd_refl p), ← Int.mul_emod, Int.mul_assoc, Int.mul_comm (ld f), Int.mul_emod, ia.2.2]
    rw [Int.emod_eq_of_lt (by omega) s1, Int.mul_one, Int.emod_eq_of_lt (by omega) s1]
  unfold tms
  rw [e, if_pos h]
theorem tms_pos {p : Int} {f g : Form} (hp : pr p) (hf : f ≠ zForm) (hfl : ∀ j, (hj : j < 9) → ((f[j].toNat : Nat) : Int) < p) (hg : g ≠ zForm) (h : tms p f g ≠ 0) : mulF p f (tms p f g) = g := by
  unfold tms at h ⊢
  split
  · rename_i h1
    exact h1
  · rename_i h1
    rw [if_neg h1] at h
    exact absurd rfl h
theorem times_i {p : Int} {f g : Form} (hp : pr p) (hf : f ≠ zForm) (hfl : ∀ j, (hj : j < 9) → ((f[j].toNat : Nat) : Int) < p) (hg : g ≠ zForm) : impl_times p f g = some (tms p f g) := by
  have l := pr_le hp
  have hp5 : p ≤ 5 := by unfold pr at hp; omega
  have hr := tms_range f g hp
  have key : ∀ (d : Nat) (s : Int), s + d = p → 1 ≤ s → (∀ t, 0 < t → t < s → mulF p f t ≠ g) → ((iter (fun s => impl_times_l1 p f g s) s).bind fun o => match o with | .stop s2 => (some (0 : Int)) | .ret r => some r | .next _ => none) = some (tms p f g) := by
    intro d
    induction d with
    | zero =>
      intro s hs h1 hall
      have : s = p := by omega
      subst this
      have h0 : tms s f g = 0 := by
        rcases Int.lt_or_eq_of_le hr.1 with h | h
        · exact absurd (tms_pos hp hf hfl hg (by omega)) (hall _ h hr.2)
        · exact h.symm
      rw [iter_stop (s' := s) (by show impl_times_l1 s f g s = _; unfold impl_times_l1; rw [dff (by omega), if_neg (by decide)]), h0]
      rfl
    | succ d ih =>
      intro s hs h1 hall
      have hb : impl_times_l1 p f g s = if mulF p f s = g then some (.ret s) else some (.next (s + 1)) := by
        unfold impl_times_l1
        rw [dtt (by omega), if_pos rfl, multiple_i _ hp (by omega) (by omega)]
        simp only [Option.bind_some]
        rw [w64_lit (by omega) (by omega)]
        by_cases h : mulF p f s = g
        · rw [dtt h, if_pos h]; rfl
        · rw [dff h, if_neg h]; rfl
      by_cases h : mulF p f s = g
      · rw [iter_ret (r := s) (by rw [hb, if_pos h]), tms_of hp hf hfl (by omega) (by omega) h]
        rfl
      · rw [iter_next (s' := s + 1) (by rw [hb, if_neg h])]
        exact ih (s + 1) (by omega) (by omega) (fun t t0 t1 => by
          rcases Int.lt_or_eq_of_le (show t ≤ s by omega) with h2 | h2
          · exact hall t t0 h2
          · subst h2; exact h)
  unfold impl_times
  obtain ⟨d, hd⟩ := Int.eq_ofNat_of_zero_le (show 0 ≤ p - 1 by omega)
  exact key d 1 (by omega) (by omega) (fun t t0 t1 => by omega)
/-- two products made one, and whether they can be -/
noncomputable def mg (p : Int) (q r : Prod) : Prod × Bool :=
  if q.1 = r.1 ∧ q.2.1 = r.2.1 then ((q.1, q.2.1, addF p q.2.2 r.2.2 1), true)
  else if q.1 = r.1 ∧ tms p q.2.2 r.2.2 ≠ 0 then ((q.1, addF p q.2.1 r.2.1 (tms p q.2.2 r.2.2), q.2.2), true)
  else if q.2.1 = r.2.1 ∧ tms p q.2.2 r.2.2 ≠ 0 then ((addF p q.1 r.1 (tms p q.2.2 r.2.2), q.2.1, q.2.2), true)
  else (zProd, false)
theorem merged_i {p : Int} {q r : Prod} (hp : pr p) (hq : Gq p q) (hr : Gq p r) : impl_merged p q r = some (mg p q r) := by
  have l := pr_le hp
  have hp5 : p ≤ 5 := by unfold pr at hp; omega
  have n := nz_iff.1 hq.nz
  have n' := nz_iff.1 hr.nz
  have ht := tms_range q.2.2 r.2.2 hp
  unfold impl_merged mg
  rw [times_i hp n.2.2 hq.c n'.2.2]
  simp only [Option.bind_some]
  have e : decide (0 < tms p q.2.2 r.2.2) = decide (tms p q.2.2 r.2.2 ≠ 0) := by
    apply Bool.eq_iff_iff.2
    simp only [decide_eq_true_eq]
    omega
  rw [e, sum_eq _ _ l.1 (by omega) (by omega) (by omega), sum_eq _ _ l.1 (by omega) ht.1 (by omega), sum_eq _ _ l.1 (by omega) ht.1 (by omega)]
  by_cases h1 : q.1 = r.1 <;> by_cases h2 : q.2.1 = r.2.1 <;> by_cases h3 : tms p q.2.2 r.2.2 = 0 <;> simp [h1, h2, h3]
theorem merged_s {p : Int} {q r : Prod} (hp : pr p) (hq : Gq p q) (hr : Gq p r) : spec_l03Join p q r = some (mg p q r) := by
  have l := pr_le hp
  have hp5 : p ≤ 5 := by unfold pr at hp; omega
  have n := nz_iff.1 hq.nz
  have n' := nz_iff.1 hr.nz
  have ht := tms_range q.2.2 r.2.2 hp
  unfold spec_l03Join mg
  rw [times_s hp n.2.2 hq.c n'.2.2 hr.c]
  simp only [Option.bind_some]
  rw [spec_add_eq _ _ l.1 (by omega) (by omega) (by omega), spec_add_eq _ _ l.1 (by omega) (by omega) (by omega), spec_add_eq _ _ l.1 (by omega) (by omega) (by omega)]
  by_cases h1 : q.1 = r.1 <;> by_cases h2 : q.2.1 = r.2.1 <;> by_cases h3 : tms p q.2.2 r.2.2 = 0 <;> simp [h1, h2, h3]
/-- what is made of two is in range -/
theorem mg_lt {p : Int} {q r : Prod} (hp : pr p) (hq : Gq p q) (h : (mg p q r).2 = true) : (∀ j, (hj : j < 9) → (((mg p q r).1.1[j].toNat : Nat) : Int) < p) ∧ (∀ j, (hj : j < 9) → (((mg p q r).1.2.1[j].toNat : Nat) : Int) < p) ∧ (∀ j, (hj : j < 9) → (((mg p q r).1.2.2[j].toNat : Nat) : Int) < p) := by
  have l := pr_le hp
  unfold mg at h ⊢
  split
  · exact ⟨hq.a, hq.b, fun j hj => addF_lt _ _ _ l.1 l.2 hj⟩
  · split
    · exact ⟨hq.a, fun j hj => addF_lt _ _ _ l.1 l.2 hj, hq.c⟩
    · split
      · exact ⟨fun j hj => addF_lt _ _ _ l.1 l.2 hj, hq.b, hq.c⟩
      · rename_i h1 h2 h3
        rw [if_neg h1, if_neg h2, if_neg h3] at h
        cases h
end Go.Proofs.YtB
