/- Plain laws, no program in sight: loops that count; copies, comparisons and marks of schemes. -/
import Derived.Test.YtbhaeajdabgnhaaSqT
set_option linter.unusedVariables false
set_option linter.unusedSimpArgs false
namespace Go.Proofs.YtB
open Go Go.RowKit Go.Proofs
theorem iter_next {σ ρ : Type} {body : σ → Option (LR σ ρ)} {s s' : σ} (h : body s = some (.next s')) : iter body s = iter body s' := by rw [iter_eq, h]
theorem iter_stop {σ ρ : Type} {body : σ → Option (LR σ ρ)} {s s' : σ} (h : body s = some (.stop s')) : iter body s = some (.stop s') := by rw [iter_eq, h]
theorem iter_ret {σ ρ : Type} {body : σ → Option (LR σ ρ)} {s : σ} {r : ρ} (h : body s = some (.ret r)) : iter body s = some (.ret r) := by rw [iter_eq, h]
theorem iter_run {σ ρ : Type} {body : σ → Option (LR σ ρ)} (f : Nat → σ) : ∀ (n : Nat), (∀ j, j < n → body (f j) = some (.next (f (j + 1)))) → iter body (f 0) = iter body (f n)
  | 0, _ => rfl
  | n + 1, h => by rw [iter_run f n (fun j hj => h j (by omega)), iter_next (h n (by omega))]
/-- a loop that counts up to n and stops -/
theorem iter_up {σ ρ : Type} {body : σ → Option (LR σ ρ)} (f : Nat → σ) (n : Nat) {s' : σ} (h : ∀ j, j < n → body (f j) = some (.next (f (j + 1)))) (hs : body (f n) = some (.stop s')) : iter body (f 0) = some (.stop s') := by
  rw [iter_run f n h, iter_stop hs]
/-- a loop that counts and looks for the first that is bad -/
theorem iter_find {σ ρ : Type} {body : σ → Option (LR σ ρ)} (f : Nat → σ) (n : Nat) (bad : Nat → Bool) (r : ρ) {s' : σ} (h1 : ∀ j, j < n → bad j = false → body (f j) = some (.next (f (j + 1)))) (h2 : ∀ j, j < n → bad j = true → body (f j) = some (.ret r)) (hs : body (f n) = some (.stop s')) :
    iter body (f 0) = if (List.range n).all (fun j => !bad j) then some (.stop s') else some (.ret r) := by
  have key : ∀ d m, m + d = n → (∀ j, j < m → bad j = false) → iter body (f m) = if (List.range n).all (fun j => !bad j) then some (.stop s') else some (.ret r) := by
    intro d
    induction d with
    | zero =>
      intro m hm hall
      have : m = n := by omega
      subst this
      rw [iter_stop hs, if_pos]
      simp only [List.all_eq_true, List.mem_range, Bool.not_eq_true']
      exact hall
    | succ d ih =>
      intro m hm hall
      cases hb : bad m with
      | false =>
        rw [iter_next (h1 m (by omega) hb)]
        refine ih (m + 1) (by omega) (fun j hj => ?_)
        rcases Nat.lt_or_ge j m with h | h
        · exact hall j h
        · have : j = m := by omega
          rw [this]; exact hb
      | true =>
        rw [iter_ret (h2 m (by omega) hb), if_neg]
        simp only [List.all_eq_true, List.mem_range, Bool.not_eq_true']
        intro h
        rw [h m (by omega)] at hb
        cases hb
  exact key n 0 (by omega) (fun j hj => by omega)
theorem w64s {n : Nat} (h : n < 9223372036854775807) : w64 ((n : Int) + 1) = ((n + 1 : Nat) : Int) := by
  rw [w64_id (by omega) (by omega)]; omega
theorem dtt {p : Prop} [Decidable p] (h : p) : decide p = true := decide_eq_true h
theorem dff {p : Prop} [Decidable p] (h : ¬p) : decide p = false := decide_eq_false h

theorem gl_nat {α : Type} {z : α} {l : List α} {j : Nat} (h : j < l.length) : gl z l (j : Int) = l[j] := by
  unfold gl
  rw [Int.toNat_natCast, List.getD_eq_getElem?_getD, List.getElem?_eq_getElem h]
  rfl
instance : DecidableEq Sch := fun x y => by
  cases x; cases y
  simp only [Sch.mk.injEq]
  exact inferInstance

end Go.Proofs.YtB
