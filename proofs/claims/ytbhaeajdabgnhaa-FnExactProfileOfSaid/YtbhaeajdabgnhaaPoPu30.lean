/- Plain laws: products in order, as both compare them. -/
import Derived.Test.YtbhaeajdabgnhaaPoPu23
import Derived.Test.YtbhaeajdabgnhaaPoG2
set_option linter.unusedVariables false
set_option linter.unusedSimpArgs false
namespace Go.Proofs.YtB
open Go Go.RowKit Go.Proofs
/-- less, by the first that differ -/
def lx : List Nat → List Nat → Bool
  | a :: l, b :: m => decide (a < b) || (decide (a = b) && lx l m)
  | _, _ => false
def cv (l m : List Nat) : Int := if lx l m then -1 else if lx m l then 1 else 0
theorem lx_irrefl : ∀ l, lx l l = false
  | [] => rfl
  | a :: l => by simp [lx, lx_irrefl l]
theorem lx_trans : ∀ {l m k : List Nat}, lx l m = true → lx m k = true → lx l k = true
  | [], _, _, h, _ => by simp [lx] at h
  | _ :: _, [], _, h, _ => by simp [lx] at h
  | _ :: _, _ :: _, [], _, h => by simp [lx] at h
  | a :: l, b :: m, c :: k, h1, h2 => by
    simp only [lx, Bool.or_eq_true, Bool.and_eq_true, decide_eq_true_eq] at h1 h2 ⊢
    rcases h1 with h1 | ⟨h1, h3⟩ <;> rcases h2 with h2 | ⟨h2, h4⟩
    · left; omega
    · left; omega
    · left; omega
    · exact .inr ⟨by omega, lx_trans h3 h4⟩
theorem lx_tot : ∀ {l m : List Nat}, l.length = m.length → lx l m = false → lx m l = false → l = m
  | [], [], _, _, _ => rfl
  | [], _ :: _, h, _, _ => by cases h
  | _ :: _, [], h, _, _ => by cases h
  | a :: l, b :: m, h, h1, h2 => by
    simp only [lx, Bool.or_eq_false_iff, Bool.and_eq_false_iff, decide_eq_false_iff_not] at h1 h2
    have hab : a = b := by omega
    subst hab
    have h3 : lx l m = false := by rcases h1.2 with h | h; exact absurd rfl h; exact h
    have h4 : lx m l = false := by rcases h2.2 with h | h; exact absurd rfl h; exact h
    rw [lx_tot (by simpa using h) h3 h4]
theorem lx_asym {l m : List Nat} (h : lx l m = true) : lx m l = false := by
  cases h2 : lx m l
  · rfl
  · have := lx_trans h h2
    rw [lx_irrefl] at this
    cases this
theorem lx_ntrans {l m k : List Nat} (hl : l.length = m.length) (hm : m.length = k.length) (h1 : lx l m = false) (h2 : lx m k = false) : lx l k = false := by
  cases h3 : lx l k
  · rfl
  · cases h4 : lx m l
    · have := lx_tot hl h1 h4
      subst this
      rw [h3] at h2; cases h2
    · have := lx_trans h4 h3
      rw [this] at h2; cases h2
theorem cv_self (l : List Nat) : cv l l = 0 := by simp [cv, lx_irrefl]
theorem cv_lt (l m : List Nat) : decide (cv l m < 0) = lx l m := by
  unfold cv
  cases lx l m
  · cases lx m l <;> rfl
  · rfl
theorem cv_cons (a b : Nat) (l m : List Nat) : cv (a :: l) (b :: m) = if a < b then -1 else if b < a then 1 else cv l m := by
  unfold cv
  by_cases h1 : a < b
  · simp [lx, h1]
  · by_cases h2 : b < a
    · have h3 : a ≠ b := by omega
      simp [lx, h1, h2, h3, Ne.symm h3]
    · have h3 : a = b := by omega
      subst h3
      simp [lx]
def ns (L : List UInt8) : List Nat := L.map UInt8.toNat
def kF (f : Form) : List Nat := ns f.toList
def key (q : Prod) : List Nat := kF q.1 ++ (kF q.2.1 ++ kF q.2.2)
end Go.Proofs.YtB
