/- Plain laws: the inverse's inverse is the square; the square times its inverse is the unit square. -/
import Derived.Test.YtbhaeajdabgnhaaSqPu45
set_option linter.unusedVariables false
set_option linter.unusedSimpArgs false
namespace Go.Proofs.YtB
open Go Go.RowKit Go.Proofs
def sm (f : Nat → Int) : Nat → Int
  | 0 => 0
  | n + 1 => sm f n + f n
def cg (p a b : Int) : Prop := p ∣ a - b
theorem cg_refl (p a : Int) : cg p a a := by unfold cg; rw [Int.sub_self]; exact Int.dvd_zero p
theorem cg_symm {p a b : Int} (h : cg p a b) : cg p b a := by
  unfold cg at *
  have := Int.dvd_neg.2 h
  rwa [Int.neg_sub] at this
theorem cg_trans {p a b c : Int} (h : cg p a b) (h2 : cg p b c) : cg p a c := by
  unfold cg at *
  have := Int.dvd_add h h2
  rwa [show a - b + (b - c) = a - c by omega] at this
theorem cg_add {p a b c d : Int} (h : cg p a b) (h2 : cg p c d) : cg p (a + c) (b + d) := by
  unfold cg at *
  have := Int.dvd_add h h2
  rwa [show a - b + (c - d) = a + c - (b + d) by omega] at this
theorem cg_mul {p a b : Int} (x : Int) (h : cg p a b) : cg p (a * x) (b * x) := by
  unfold cg at *
  rw [← Int.sub_mul]
  exact Int.dvd_trans h (Int.dvd_mul_right _ _)
theorem cg_mull {p a b : Int} (x : Int) (h : cg p a b) : cg p (x * a) (x * b) := by
  rw [Int.mul_comm x a, Int.mul_comm x b]; exact cg_mul x h
theorem cg_mod (p a : Int) : cg p (a % p) a := by
  unfold cg
  have := Int.emod_add_mul_ediv a p
  exact ⟨-(a / p), by rw [Int.mul_neg]; omega⟩
theorem cg_zero {p a b : Int} (h : cg p a b) : p ∣ a ↔ p ∣ b := by
  unfold cg at h
  constructor
  · intro h2
    have := Int.dvd_sub h2 h
    rwa [show a - (a - b) = b by omega] at this
  · intro h2
    have := Int.dvd_add h h2
    rwa [show a - b + b = a by omega] at this
theorem cg_eq {p a b : Int} (h : cg p a b) (a0 : 0 ≤ a) (a1 : a < p) (b0 : 0 ≤ b) (b1 : b < p) : a = b := by
  unfold cg at h
  obtain ⟨q, hq⟩ := h
  rcases Int.lt_trichotomy q 0 with h0 | h0 | h0
  · have : p * q ≤ p * (-1) := Int.mul_le_mul_of_nonneg_left (by omega) (by omega)
    omega
  · subst h0; omega
  · have : p * 1 ≤ p * q := Int.mul_le_mul_of_nonneg_left (by omega) (by omega)
    omega
theorem sm_cg {p : Int} {f g : Nat → Int} : ∀ {n : Nat}, (∀ t, t < n → cg p (f t) (g t)) → cg p (sm f n) (sm g n)
  | 0, _ => cg_refl _ _
  | n + 1, h => cg_add (sm_cg fun t ht => h t (by omega)) (h n (by omega))
theorem sm_congr {f g : Nat → Int} : ∀ {n : Nat}, (∀ t, t < n → f t = g t) → sm f n = sm g n
  | 0, _ => rfl
  | n + 1, h => by unfold sm; rw [sm_congr fun t ht => h t (by omega), h n (by omega)]
theorem sm_lin (f g : Nat → Int) (a : Int) : ∀ n, sm (fun t => f t + a * g t) n = sm f n + a * sm g n
  | 0 => by simp [sm]
  | n + 1 => by unfold sm; rw [sm_lin f g a n, Int.mul_add]; omega
theorem sm_mul (f : Nat → Int) (a : Int) : ∀ n, sm (fun t => a * f t) n = a * sm f n
  | 0 => by simp [sm]
  | n + 1 => by unfold sm; rw [sm_mul f a n, Int.mul_add]
theorem sm_zero : ∀ n, sm (fun _ => 0) n = 0
  | 0 => rfl
  | n + 1 => by unfold sm; rw [sm_zero n]; rfl
theorem sm_add (f g : Nat → Int) : ∀ n, sm (fun t => f t + g t) n = sm f n + sm g n
  | 0 => rfl
  | n + 1 => by unfold sm; rw [sm_add f g n]; omega
theorem sm_split (f : Nat → Int) (n : Nat) : ∀ k, sm f (n + k) = sm f n + sm (fun t => f (n + t)) k
  | 0 => by simp [sm]
  | k + 1 => by
    show sm f (n + k) + f (n + k) = sm f n + (sm (fun t => f (n + t)) k + f (n + k))
    rw [sm_split f n k]; omega
theorem sm_one {n k : Nat} (f : Nat → Int) (hk : k < n) : sm (fun t => (if k = t then 1 else 0) * f t) n = f k := by
  induction n with
  | zero => omega
  | succ n ih =>
    unfold sm
    rcases Nat.lt_or_ge k n with h | h
    · rw [ih h, if_neg (by omega)]; omega
    · have : k = n := by omega
      subst this
      rw [sm_congr (g := fun _ => 0) (fun t ht => by rw [if_neg (by omega)]; omega), sm_zero, if_pos rfl]; omega
theorem sm_swap (f : Nat → Nat → Int) (n : Nat) : ∀ m, sm (fun t => sm (fun s => f t s) m) n = sm (fun s => sm (fun t => f t s) n) m
  | 0 => by simp only [sm]; exact sm_zero n
  | m + 1 => by
    simp only [sm]
    rw [sm_add, sm_swap f n m]
def ph (w : Nat → Int) (m : Nat) (X : List Int) : Int := sm (fun l => w l * gl 0 X (l : Int)) m
theorem ph_scl {p y : Int} {w : Nat → Int} {m : Nat} {X : List Int} (hX : X.length = m) : cg p (ph w m (scl p y X)) (y * ph w m X) := by
  unfold ph
  rw [← sm_mul]
  refine sm_cg fun t ht => ?_
  rw [scl_get (by omega), ← Int.mul_assoc, Int.mul_comm y, Int.mul_assoc, Int.mul_comm y]
  exact cg_mull _ (cg_mod _ _)
theorem ph_rop {p s : Int} {w : Nat → Int} {m : Nat} {X Y : List Int} (hX : X.length = m) : cg p (ph w m (rop p s X Y)) (ph w m X + (-s) * ph w m Y) := by
  unfold ph
  rw [← sm_lin]
  refine sm_cg fun t ht => ?_
  rw [rop_get (by omega)]
  have e : w t * gl 0 X (t : Int) + -s * (w t * gl 0 Y (t : Int)) = w t * (gl 0 X (t : Int) - s * gl 0 Y (t : Int)) := by
    rw [Int.mul_sub, ← Int.mul_assoc, ← Int.mul_assoc, Int.neg_mul, Int.neg_mul, Int.mul_comm s]
    omega
  rw [e]
  exact cg_mull _ (cg_mod _ _)
theorem gjM_row {p : Int} {n c : Nat} {N : Nat → List Int} (hc : c < n) : gjM p N n c c = scl p (inv p (gl 0 (N c) (c : Int))) (N c) := by
  unfold gjM elX
  rw [if_neg (by omega)]
  unfold updM
  rw [if_pos rfl]
theorem gjM_far {p : Int} {n c k : Nat} {N : Nat → List Int} (hk : k < n) (hkc : k ≠ c) : gjM p N n c k = rop p (gl 0 (N k) (c : Int)) (N k) (scl p (inv p (gl 0 (N c) (c : Int))) (N c)) := by
  unfold gjM elX
  rw [if_pos ⟨hkc, hk⟩]
  unfold updM
  rw [if_neg hkc, if_pos rfl]
theorem dvd_cancel {p x y a : Int} (h : (y * x) % p = 1) (hp : 2 ≤ p) (hd : p ∣ y * a) : p ∣ a := by
  have h1 : cg p (y * x) 1 := cg_symm (by rw [← h]; exact cg_mod _ _)
  have h2 : p ∣ x * (y * a) := Int.dvd_trans hd (Int.dvd_mul_left _ _)
  rw [← Int.mul_assoc, Int.mul_comm x y] at h2
  have := (cg_zero (cg_mul a h1)).1 h2
  rwa [Int.one_mul] at this
theorem step_iff {p : Int} (hp : pr p) {n m c : Nat} {N : Nat → List Int} (hM : Mok p n m N) (hc : c < n) (hm : c < m) (hx : gl 0 (N c) (c : Int) ≠ 0) (w : Nat → Int) :
    (∀ k, k < n → p ∣ ph w m (N k)) ↔ ∀ k, k < n → p ∣ ph w m (gjM p N n c k) := by
  have l := pr_le hp
  have hp2 : 2 ≤ p := by unfold pr at hp; omega
  have hb := hM.rng c hc c
  have hi := inv_range hp (show 0 < gl 0 (N c) (c : Int) by omega) hb.2
  have hrow : p ∣ ph w m (scl p (inv p (gl 0 (N c) (c : Int))) (N c)) ↔ p ∣ ph w m (N c) := by
    rw [cg_zero (ph_scl (hM.len c hc))]
    exact ⟨fun h => dvd_cancel hi.2.2 hp2 h, fun h => Int.dvd_trans h (Int.dvd_mul_left _ _)⟩
  have hfar : ∀ k, k < n → p ∣ ph w m (N c) → (p ∣ ph w m (rop p (gl 0 (N k) (c : Int)) (N k) (scl p (inv p (gl 0 (N c) (c : Int))) (N c))) ↔ p ∣ ph w m (N k)) := fun k hk h => by
    rw [cg_zero (ph_rop (hM.len k hk))]
    have h2 := Int.dvd_trans (hrow.2 h) (Int.dvd_mul_left (-(gl 0 (N k) (c : Int))) (ph w m (scl p (inv p (gl 0 (N c) (c : Int))) (N c))))
    constructor
    · intro h3
      have := Int.dvd_sub h3 h2
      rwa [Int.add_sub_cancel] at this
    · intro h3; exact Int.dvd_add h3 h2
  constructor
  · intro h k hk
    by_cases hkc : k = c
    · subst hkc; rw [gjM_row hc]; exact hrow.2 (h _ hk)
    · rw [gjM_far hk hkc]; exact (hfar k hk (h c hc)).2 (h k hk)
  · intro h
    have h0 : p ∣ ph w m (N c) := by have := h c hc; rw [gjM_row hc] at this; exact hrow.1 this
    intro k hk
    by_cases hkc : k = c
    · subst hkc; exact h0
    · have := h k hk; rw [gjM_far hk hkc] at this; exact (hfar k hk h0).1 this
theorem sw_all {n c b : Nat} {M : Nat → List Int} (hc : c < n) (hb : b < n) (q : List Int → Prop) : (∀ k, k < n → q (M k)) ↔ ∀ k, k < n → q (swM M c b k) := by
  unfold swM
  constructor
  · intro h k hk
    split
    · exact h b hb
    · split
      · exact h c hc
      · exact h k hk
  · intro h k hk
    by_cases h1 : k = c
    · have := h b hb
      by_cases h2 : b = c
      · rw [if_pos h2] at this; rw [h1, ← h2]; exact this
      · rw [if_neg h2, if_pos rfl] at this; rw [h1]; exact this
    · by_cases h2 : k = b
      · have := h c hc; rw [if_pos rfl] at this; rw [h2]; exact this
      · have := h k hk; rw [if_neg h1, if_neg h2] at this; exact this
theorem fb_none {M : Nat → List Int} {c : Nat} : ∀ {d k : Nat}, fb M c k d = none → ∀ t, k ≤ t → t < k + d → gl 0 (M t) (c : Int) = 0
  | 0, k, _, t, h1, h2 => by omega
  | d + 1, k, h, t, h1, h2 => by
    unfold fb at h
    split at h
    · cases h
    · rename_i h0
      rcases Nat.eq_or_lt_of_le h1 with h3 | h3
      · subst h3; exact Classical.not_not.1 h0
      · exact fb_none h t (by omega) (by omega)
theorem gj_iff {p : Int} (hp : pr p) {n m : Nat} (hnm : n ≤ m) (w : Nat → Int) : ∀ (d c : Nat) (M M' : Nat → List Int), c + d = n → Mok p n m M → gj p n d c M = some M' → ((∀ k, k < n → p ∣ ph w m (M k)) ↔ ∀ k, k < n → p ∣ ph w m (M' k))
  | 0, c, M, M', hc, hM, h => by
    unfold gj at h
    obtain rfl := Option.some.inj h
    exact Iff.rfl
  | d + 1, c, M, M', hc, hM, h => by
    unfold gj at h
    split at h
    · cases h
    · rename_i b hb
      obtain ⟨b1, b2, b3⟩ := fb_some hb
      have hS := hM.sw (show c < n by omega) (show b < n by omega)
      have hN := hS.gj hp (show c < n by omega)
      rw [sw_all (show c < n by omega) (show b < n by omega) (fun X => p ∣ ph w m X), step_iff hp hS (show c < n by omega) (show c < m by omega) (by unfold swM; rw [if_pos rfl]; exact b3) w]
      exact gj_iff hp hnm w d (c + 1) _ _ (by omega) hN h
def Un (n c : Nat) (M : Nat → List Int) : Prop := ∀ t, t < c → ∀ k, k < n → gl 0 (M k) (t : Int) = if k = t then 1 else 0
theorem Un.step {p : Int} (hp : pr p) {n m c b : Nat} {M : Nat → List Int} (hU : Un n c M) (hM : Mok p n m M) (hnm : n ≤ m) (hcb : c ≤ b) (hb : b < n) (hx : gl 0 (M b) (c : Int) ≠ 0) : Un n (c + 1) (gjM p (swM M c b) n c) := by
  have l := pr_le hp
  have hp2 : 2 ≤ p := by unfold pr at hp; omega
  have hc : c < n := by omega
  have hS := hM.sw hc hb
  have e0 : swM M c b c = M b := by unfold swM; rw [if_pos rfl]
  have hy := inv_range hp (show 0 < gl 0 (M b) (c : Int) by have := (hM.rng b hb c).1; omega) (hM.rng b hb c).2
  have hone : (gl 0 (M b) (c : Int) * inv p (gl 0 (M b) (c : Int))) % p = 1 := by rw [Int.mul_comm]; exact hy.2.2
  intro t ht k hk
  have hlen : ∀ k, k < n → (swM M c b k).length = m := hS.len
  rcases Nat.eq_or_lt_of_le (Nat.le_of_lt_succ ht) with h | h
  · subst h
    by_cases hkc : k = t
    · subst hkc
      rw [gjM_row hc, scl_get (by rw [hlen k hk]; omega), e0, if_pos rfl, hone]
    · rw [gjM_far hk hkc, rop_get (by rw [hlen k hk]; omega), scl_get (by rw [hlen t hc]; omega), e0, if_neg hkc, hone, Int.mul_one, Int.sub_self, Int.zero_emod]
  · have hz : gl 0 (M b) (t : Int) = 0 := by rw [hU t h b hb, if_neg (by omega)]
    by_cases hkc : k = c
    · subst hkc
      rw [gjM_row hc, scl_get (by rw [hlen k hk]; omega), e0, hz, Int.zero_mul, Int.zero_emod, if_neg (by omega)]
    · rw [gjM_far hk hkc, rop_get (by rw [hlen k hk]; omega), scl_get (by rw [hlen c hc]; omega), e0, hz, Int.zero_mul, Int.zero_emod, Int.mul_zero, Int.sub_zero]
      have hv : gl 0 (swM M c b k) (t : Int) = if k = t then 1 else 0 := by
        unfold swM
        rw [if_neg hkc]
        split
        · rename_i hkb
          subst hkb
          rw [hU t h c hc, if_neg (by omega), if_neg (by omega)]
        · exact hU t h k hk
      rw [hv]
      split
      · exact Int.emod_eq_of_lt (by omega) (by omega)
      · exact Int.zero_emod p
theorem gj_un {p : Int} (hp : pr p) {n m : Nat} (hnm : n ≤ m) : ∀ (d c : Nat) (M M' : Nat → List Int), c + d = n → Mok p n m M → Un n c M → gj p n d c M = some M' → Un n n M'
  | 0, c, M, M', hc, hM, hU, h => by
    unfold gj at h
    obtain rfl := Option.some.inj h
    rw [show n = c by omega] at hU ⊢
    exact hU
  | d + 1, c, M, M', hc, hM, hU, h => by
    unfold gj at h
    split at h
    · cases h
    · rename_i b hb
      obtain ⟨b1, b2, b3⟩ := fb_some hb
      exact gj_un hp hnm d (c + 1) _ _ (by omega) ((hM.sw (show c < n by omega) (show b < n by omega)).gj hp (by omega)) (hU.step hp hM hnm b1 (by omega) b3) h
/-- where the inverting fails, something that is not 0 vanishes on all rows -/
theorem gj_fail {p : Int} (hp : pr p) {n m : Nat} (hnm : n ≤ m) : ∀ (d c : Nat) (M : Nat → List Int), c + d = n → Mok p n m M → Un n c M → gj p n d c M = none → ∃ w : Nat → Int, (∀ l, n ≤ l → w l = 0) ∧ (∃ t, t < n ∧ w t = 1) ∧ ∀ k, k < n → p ∣ ph w m (M k)
  | 0, c, M, hc, hM, hU, h => by unfold gj at h; cases h
  | d + 1, c, M, hc, hM, hU, h => by
    unfold gj at h
    split at h
    · rename_i hb
      have hz := fb_none hb
      refine ⟨fun l => if l < c then -(gl 0 (M l) (c : Int)) else if l = c then 1 else 0, fun l hl => by dsimp only; rw [if_neg (by omega), if_neg (by omega)], ⟨c, by omega, by dsimp only; rw [if_neg (by omega), if_pos rfl]⟩, fun k hk => ?_⟩
      have e : ph (fun l => if l < c then -(gl 0 (M l) (c : Int)) else if l = c then 1 else 0) m (M k) = 0 := by
        unfold ph
        obtain ⟨q, rfl⟩ : ∃ q, m = c + (1 + q) := ⟨m - c - 1, by omega⟩
        rw [sm_split, sm_split]
        have e1 : sm (fun l => (if l < c then -(gl 0 (M l) (c : Int)) else if l = c then 1 else 0) * gl 0 (M k) (l : Int)) c = if k < c then -(gl 0 (M k) (c : Int)) else 0 := by
          rw [sm_congr (g := fun l => (if k = l then 1 else 0) * (-(gl 0 (M l) (c : Int)))) (fun t ht => by rw [if_pos ht, hU t ht k hk]; rw [Int.mul_comm])]
          split
          · rename_i hkc; exact sm_one (fun l => -(gl 0 (M l) (c : Int))) hkc
          · rename_i hkc
            rw [sm_congr (g := fun _ => 0) (fun t ht => by rw [if_neg (by omega), Int.zero_mul]), sm_zero]
        have e3 : sm (fun t => (if c + (1 + t) < c then -(gl 0 (M (c + (1 + t))) (c : Int)) else if c + (1 + t) = c then 1 else 0) * gl 0 (M k) ((c + (1 + t) : Nat) : Int)) q = 0 := by
          rw [sm_congr (g := fun _ => 0) (fun t ht => by rw [if_neg (by omega), if_neg (by omega), Int.zero_mul]), sm_zero]
        rw [e1, e3]
        simp only [sm, Nat.add_zero, Nat.lt_irrefl, if_false, if_true, Int.one_mul]
        split
        · omega
        · rw [hz k (by omega) (by omega)]; rfl
      rw [e]; exact Int.dvd_zero p
    · rename_i b hb
      obtain ⟨b1, b2, b3⟩ := fb_some hb
      have hS := hM.sw (show c < n by omega) (show b < n by omega)
      obtain ⟨w, w1, w2, w3⟩ := gj_fail hp hnm d (c + 1) _ (by omega) (hS.gj hp (by omega)) (hU.step hp hM hnm b1 (by omega) b3) h
      refine ⟨w, w1, w2, ?_⟩
      rw [sw_all (show c < n by omega) (show b < n by omega) (fun X => p ∣ ph w m X), step_iff hp hS (show c < n by omega) (show c < m by omega) (by unfold swM; rw [if_pos rfl]; exact b3) w]
      exact w3
end Go.Proofs.YtB
