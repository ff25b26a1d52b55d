/- Plain laws: the rank of a form, as both reckon it. -/
import Derived.Test.YtbhaeajdabgnhaaAePu15
import Derived.Test.YtbhaeajdabgnhaaAeG1
set_option linter.unusedVariables false
set_option linter.unusedSimpArgs false
namespace Go.Proofs.YtB
open Go Go.RowKit Go.Proofs
def ent (f : Form) (t : Nat) : Int := ((vg 0 f (t : Int)).toNat : Int)
def mrow (f : Form) (c i : Nat) : List Int := (List.range c).map fun j => ent f (i * c + j)
def mat (f : Form) (r c : Nat) : List (List Int) := (List.range r).map (mrow f c)
theorem clone_ints (L : List Int) (h : L.length ≤ 1000) : slices_Clone_111 L = some L := by
  unfold slices_Clone_111
  rw [if_pos (by simp only [List.length_nil]; omega), List.nil_append]
theorem rc_le {r c : Nat} (hr : r ≤ 3) (hc : c ≤ 3) : r * c ≤ 9 := Nat.mul_le_mul hr hc
theorem w64_mul {r c : Nat} (hr : r ≤ 3) (hc : c ≤ 3) : w64 ((r : Int) * (c : Int)) = ((r * c : Nat) : Int) := by
  have := rc_le hr hc
  rw [show (r : Int) * (c : Int) = ((r * c : Nat) : Int) by simp, w64_id (by omega) (by omega)]
theorem flat_eq (f : Form) (r c : Nat) (hr : r ≤ 3) (hc : c ≤ 3) : iter (fun s : Int × List Int => impl_matrixOf_l1 f (r : Int) (c : Int) s.1 s.2) (0, []) = some (.stop (((r * c : Nat) : Int), (List.range (r * c)).map (ent f))) := by
  have h9 := rc_le hr hc
  have := iter_up (body := fun s : Int × List Int => impl_matrixOf_l1 f (r : Int) (c : Int) s.1 s.2) (fun j => ((j : Int), (List.range j).map (ent f))) (r * c) (s' := (((r * c : Nat) : Int), (List.range (r * c)).map (ent f))) (fun j hj => by
    show impl_matrixOf_l1 f (r : Int) (c : Int) (j : Int) ((List.range j).map (ent f)) = _
    unfold impl_matrixOf_l1
    rw [w64_mul hr hc, dtt (by omega), if_pos rfl, if_pos ⟨by omega, by omega⟩, if_pos (by simp; omega), w64s (by omega), List.range_succ, List.map_append]
    rfl) (by
    show impl_matrixOf_l1 f (r : Int) (c : Int) ((r * c : Nat) : Int) _ = _
    unfold impl_matrixOf_l1
    rw [w64_mul hr hc, dff (by omega), if_neg (by decide)])
  simpa using this
theorem range_cut (n a b : Nat) (h : a + b ≤ n) : ((List.range n).take (a + b)).drop a = (List.range b).map fun j => a + j := by
  rw [List.take_range, Nat.min_eq_left h]
  apply List.ext_getElem?
  intro j
  rw [List.getElem?_drop, List.getElem?_map]
  rcases Nat.lt_or_ge j b with hj | hj
  · rw [List.getElem?_range (by omega), List.getElem?_range hj]; rfl
  · rw [List.getElem?_eq_none (by simp; omega), List.getElem?_eq_none (by simpa using hj)]; rfl
theorem matrix_i (f : Form) (r c : Nat) (hr : r ≤ 3) (hc : c ≤ 3) (hc1 : 1 ≤ c) : impl_matrixOf f (r : Int) (c : Int) = some (mat f r c) := by
  have h9 := rc_le hr hc
  unfold impl_matrixOf
  rw [flat_eq f r c hr hc]
  simp only [Option.bind_some]
  unfold impl_parted
  have hlen : ((List.range (r * c)).map (ent f)).length = r * c := by simp
  have := iter_up (body := fun s : Int × List (List Int) => impl_parted_l1 ((List.range (r * c)).map (ent f)) (c : Int) s.1 s.2) (fun i => (((i * c : Nat) : Int), (mat f r c).take i)) r (s' := (((r * c : Nat) : Int), mat f r c)) (fun i hi => by
    show impl_parted_l1 ((List.range (r * c)).map (ent f)) (c : Int) ((i * c : Nat) : Int) ((mat f r c).take i) = _
    unfold impl_parted_l1
    have h1 : i * c + c ≤ r * c := by rw [← Nat.succ_mul]; exact Nat.mul_le_mul_right _ hi
    have e1 : w64 (((i * c : Nat) : Int) + (c : Int)) = ((i * c + c : Nat) : Int) := by rw [w64_id (by omega) (by omega)]; omega
    have hml : (mat f r c).length = r := by simp [mat]
    have e2 : ((((List.range (r * c)).map (ent f)).take (i * c + c)).drop (i * c)) = mrow f c i := by
      rw [← List.map_take, ← List.map_drop, range_cut _ _ _ h1, List.map_map]
      rfl
    rw [hlen, dtt (by omega), if_pos rfl, e1, if_pos ⟨by omega, by omega, by omega⟩]
    simp only [Int.toNat_natCast]
    rw [e2, clone_ints _ (by simp [mrow]; omega)]
    simp only [Option.bind_some]
    rw [if_pos (by simp only [List.length_take, hml, List.length_singleton]; omega), ← List.take_append_getElem (show i < (mat f r c).length by omega), Nat.succ_mul]
    congr 4
    simp [mat]) (by
    show impl_parted_l1 ((List.range (r * c)).map (ent f)) (c : Int) ((r * c : Nat) : Int) ((mat f r c).take r) = _
    unfold impl_parted_l1
    rw [hlen, dff (by omega), if_neg (by decide), List.take_of_length_le (by simp [mat])])
  have h0 : (((0 * c : Nat) : Int), (mat f r c).take 0) = ((0 : Int), ([] : List (List Int))) := by simp
  rw [h0] at this
  rw [this]
  rfl

/-- the first row from k on (d of them) with a number other than 0 in column c -/
def fb (M : Nat → List Int) (c : Nat) : Nat → Nat → Option Nat
  | k, 0 => none
  | k, d + 1 => if gl 0 (M k) (c : Int) ≠ 0 then some k else fb M c (k + 1) d
def swM (M : Nat → List Int) (i j : Nat) : Nat → List Int := fun k => if k = i then M j else if k = j then M i else M k
def rop (p s : Int) (x y : List Int) : List Int := (List.range x.length).map fun l : Nat => (gl 0 x (l : Int) - s * gl 0 y (l : Int)) % p
def elM (p : Int) (M : Nat → List Int) (n i c : Nat) : Nat → List Int := fun k => if i < k ∧ k < n then rop p ((gl 0 (M k) (c : Int) * inv p (gl 0 (M i) (c : Int))) % p) (M k) (M i) else M k
/-- the rank: d columns are left, from c on; i rows are done -/
def rk (p : Int) (n : Nat) : Nat → Nat → Nat → (Nat → List Int) → Nat
  | 0, _, i, _ => i
  | d + 1, c, i, M => match fb M c i (n - i) with
    | none => rk p n d (c + 1) i M
    | some b => rk p n d (c + 1) (i + 1) (elM p (swM M i b) n i c)
theorem fb_some {M : Nat → List Int} {c : Nat} : ∀ {d k b : Nat}, fb M c k d = some b → k ≤ b ∧ b < k + d ∧ gl 0 (M b) (c : Int) ≠ 0
  | 0, k, b, h => by cases h
  | d + 1, k, b, h => by
    unfold fb at h
    split at h
    · injection h with h; subst h; rename_i h1; exact ⟨Nat.le_refl _, by omega, h1⟩
    · have := fb_some h; omega
/-- rows and columns in range -/
structure Mok (p : Int) (n m : Nat) (M : Nat → List Int) : Prop where
  len : ∀ k, k < n → (M k).length = m
  rng : ∀ k, k < n → ∀ l : Nat, 0 ≤ gl 0 (M k) (l : Int) ∧ gl 0 (M k) (l : Int) < p
theorem gl_map {n : Nat} {g : Nat → Int} {l : Nat} : gl 0 ((List.range n).map g) (l : Int) = if l < n then g l else 0 := by
  unfold gl
  rw [Int.toNat_natCast, List.getD_eq_getElem?_getD, List.getElem?_map]
  split
  · rw [List.getElem?_range (by assumption)]; rfl
  · rw [List.getElem?_eq_none (by simp; omega)]; rfl
theorem Mok.sw {p : Int} {n m : Nat} {M : Nat → List Int} (h : Mok p n m M) {i j : Nat} (hi : i < n) (hj : j < n) : Mok p n m (swM M i j) := by
  constructor
  · intro k hk
    unfold swM
    split
    · exact h.len _ hj
    · split
      · exact h.len _ hi
      · exact h.len _ hk
  · intro k hk
    unfold swM
    split
    · exact h.rng _ hj
    · split
      · exact h.rng _ hi
      · exact h.rng _ hk
theorem Mok.el {p : Int} {n m : Nat} {M : Nat → List Int} (hp : pr p) (h : Mok p n m M) (i c : Nat) : Mok p n m (elM p M n i c) := by
  have l := pr_le hp
  constructor
  · intro k hk
    unfold elM rop
    split
    · simp [h.len k hk]
    · exact h.len k hk
  · intro k hk t
    unfold elM rop
    split
    · rw [gl_map]
      split
      · exact ⟨Int.emod_nonneg _ (by omega), Int.emod_lt_of_pos _ l.1⟩
      · omega
    · exact h.rng k hk t
/-- the state of a grid tells M -/
structure Rep (n : Nat) (idx : List Nat) (rows : List (List Int)) (M : Nat → List Int) : Prop where
  len : idx.length = n
  lt : ∀ k, k < n → gl 0 idx (k : Int) < rows.length
  at_ : ∀ k, k < n → rows.getD (gl 0 idx (k : Int)) [] = M k
theorem gl_set_nat {l : List Nat} {k j : Nat} {x : Nat} (hk : k < l.length) : gl 0 (l.set k x) (j : Int) = if j = k then x else gl 0 l (j : Int) := by
  unfold gl
  rw [Int.toNat_natCast, List.getD_eq_getElem?_getD, List.getD_eq_getElem?_getD, List.getElem?_set]
  split
  · rename_i h
    subst h
    simp [hk]
  · rename_i h
    rw [if_neg (Ne.symm h)]
end Go.Proofs.YtB
