/- Plain laws: the rank of a form, as both reckon it. -/
import Derived.Test.YtbhaeajdabgnhaaSqPu15
import Derived.Test.YtbhaeajdabgnhaaSqG1
set_option linter.unusedVariables false
set_option linter.unusedSimpArgs false
namespace Go.Proofs.YtB
open Go Go.RowKit Go.Proofs
theorem clone_ints (L : List Int) (h : L.length ≤ 1000) : slices_Clone_111 L = some L := by
  unfold slices_Clone_111
  rw [if_pos (by simp only [List.length_nil]; omega), List.nil_append]
/-- the first row from k on (d of them) with a number other than 0 in column c -/
def fb (M : Nat → List Int) (c : Nat) : Nat → Nat → Option Nat
  | k, 0 => none
  | k, d + 1 => if gl 0 (M k) (c : Int) ≠ 0 then some k else fb M c (k + 1) d
def swM (M : Nat → List Int) (i j : Nat) : Nat → List Int := fun k => if k = i then M j else if k = j then M i else M k
def rop (p s : Int) (x y : List Int) : List Int := (List.range x.length).map fun l : Nat => (gl 0 x (l : Int) - s * gl 0 y (l : Int)) % p
def elM (p : Int) (M : Nat → List Int) (n i c : Nat) : Nat → List Int := fun k => if i < k ∧ k < n then rop p ((gl 0 (M k) (c : Int) * inv p (gl 0 (M i) (c : Int))) % p) (M k) (M i) else M k
/-- the rank: d columns are left, from c on; i rows are done -/
def rk (p : Int) (n : Nat) : Nat → Nat → Nat → (Nat → List Int) → Nat
  | 0, _, i, _ => i
  | d + 1, c, i, M => match fb M c i (n - i) with
    | none => rk p n d (c + 1) i M
    | some b => rk p n d (c + 1) (i + 1) (elM p (swM M i b) n i c)
theorem fb_some {M : Nat → List Int} {c : Nat} : ∀ {d k b : Nat}, fb M c k d = some b → k ≤ b ∧ b < k + d ∧ gl 0 (M b) (c : Int) ≠ 0
  | 0, k, b, h => by cases h
  | d + 1, k, b, h => by
    unfold fb at h
    split at h
    · injection h with h; subst h; rename_i h1; exact ⟨Nat.le_refl _, by omega, h1⟩
    · have := fb_some h; omega
/-- rows and columns in range -/
structure Mok (p : Int) (n m : Nat) (M : Nat → List Int) : Prop where
  len : ∀ k, k < n → (M k).length = m
  rng : ∀ k, k < n → ∀ l : Nat, 0 ≤ gl 0 (M k) (l : Int) ∧ gl 0 (M k) (l : Int) < p
theorem gl_map {n : Nat} {g : Nat → Int} {l : Nat} : gl 0 ((List.range n).map g) (l : Int) = if l < n then g l else 0 := by
  unfold gl
  rw [Int.toNat_natCast, List.getD_eq_getElem?_getD, List.getElem?_map]
  split
  · rw [List.getElem?_range (by assumption)]; rfl
  · rw [List.getElem?_eq_none (by simp; omega)]; rfl
theorem Mok.sw {p : Int} {n m : Nat} {M : Nat → List Int} (h : Mok p n m M) {i j : Nat} (hi : i < n) (hj : j < n) : Mok p n m (swM M i j) := by
  constructor
  · intro k hk
    unfold swM
    split
    · exact h.len _ hj
    · split
      · exact h.len _ hi
      · exact h.len _ hk
  · intro k hk
    unfold swM
    split
    · exact h.rng _ hj
    · split
      · exact h.rng _ hi
      · exact h.rng _ hk
theorem Mok.el {p : Int} {n m : Nat} {M : Nat → List Int} (hp : pr p) (h : Mok p n m M) (i c : Nat) : Mok p n m (elM p M n i c) := by
  have l := pr_le hp
  constructor
  · intro k hk
    unfold elM rop
    split
    · simp [h.len k hk]
    · exact h.len k hk
  · intro k hk t
    unfold elM rop
    split
    · rw [gl_map]
      split
      · exact ⟨Int.emod_nonneg _ (by omega), Int.emod_lt_of_pos _ l.1⟩
      · omega
    · exact h.rng k hk t
/-- the state of a grid tells M -/
structure Rep (n : Nat) (idx : List Nat) (rows : List (List Int)) (M : Nat → List Int) : Prop where
  len : idx.length = n
  lt : ∀ k, k < n → gl 0 idx (k : Int) < rows.length
  at_ : ∀ k, k < n → rows.getD (gl 0 idx (k : Int)) [] = M k
theorem gl_set_nat {l : List Nat} {k j : Nat} {x : Nat} (hk : k < l.length) : gl 0 (l.set k x) (j : Int) = if j = k then x else gl 0 l (j : Int) := by
  unfold gl
  rw [Int.toNat_natCast, List.getD_eq_getElem?_getD, List.getD_eq_getElem?_getD, List.getElem?_set]
  split
  · rename_i h
    subst h
    simp [hk]
  · rename_i h
    rw [if_neg (Ne.symm h)]
end Go.Proofs.YtB
