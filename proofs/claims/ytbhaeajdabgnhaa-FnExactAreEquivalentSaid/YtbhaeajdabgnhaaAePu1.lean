/- Plain laws, no program in sight: loops that count; copies, comparisons and marks of schemes. -/
import Derived.Test.YtbhaeajdabgnhaaAeT
import Derived.Test.YtbhaeajdabgnhaaAeG1
set_option linter.unusedVariables false
set_option linter.unusedSimpArgs false
namespace Go.Proofs.YtB
open Go Go.RowKit Go.Proofs
theorem iter_next {σ ρ : Type} {body : σ → Option (LR σ ρ)} {s s' : σ} (h : body s = some (.next s')) : iter body s = iter body s' := by rw [iter_eq, h]
theorem iter_stop {σ ρ : Type} {body : σ → Option (LR σ ρ)} {s s' : σ} (h : body s = some (.stop s')) : iter body s = some (.stop s') := by rw [iter_eq, h]
theorem iter_ret {σ ρ : Type} {body : σ → Option (LR σ ρ)} {s : σ} {r : ρ} (h : body s = some (.ret r)) : iter body s = some (.ret r) := by rw [iter_eq, h]
theorem iter_run {σ ρ : Type} {body : σ → Option (LR σ ρ)} (f : Nat → σ) : ∀ (n : Nat), (∀ j, j < n → body (f j) = some (.next (f (j + 1)))) → iter body (f 0) = iter body (f n)
  | 0, _ => rfl
  | n + 1, h => by rw [iter_run f n (fun j hj => h j (by omega)), iter_next (h n (by omega))]
/-- a loop that counts up to n and stops -/
theorem iter_up {σ ρ : Type} {body : σ → Option (LR σ ρ)} (f : Nat → σ) (n : Nat) {s' : σ} (h : ∀ j, j < n → body (f j) = some (.next (f (j + 1)))) (hs : body (f n) = some (.stop s')) : iter body (f 0) = some (.stop s') := by
  rw [iter_run f n h, iter_stop hs]
/-- a loop that counts and looks for the first that is bad -/
theorem iter_find {σ ρ : Type} {body : σ → Option (LR σ ρ)} (f : Nat → σ) (n : Nat) (bad : Nat → Bool) (r : ρ) {s' : σ} (h1 : ∀ j, j < n → bad j = false → body (f j) = some (.next (f (j + 1)))) (h2 : ∀ j, j < n → bad j = true → body (f j) = some (.ret r)) (hs : body (f n) = some (.stop s')) :
    iter body (f 0) = if (List.range n).all (fun j => !bad j) then some (.stop s') else some (.ret r) := by
  have key : ∀ d m, m + d = n → (∀ j, j < m → bad j = false) → iter body (f m) = if (List.range n).all (fun j => !bad j) then some (.stop s') else some (.ret r) := by
    intro d
    induction d with
    | zero =>
      intro m hm hall
      have : m = n := by omega
      subst this
      rw [iter_stop hs, if_pos]
      simp only [List.all_eq_true, List.mem_range, Bool.not_eq_true']
      exact hall
    | succ d ih =>
      intro m hm hall
      cases hb : bad m with
      | false =>
        rw [iter_next (h1 m (by omega) hb)]
        refine ih (m + 1) (by omega) (fun j hj => ?_)
        rcases Nat.lt_or_ge j m with h | h
        · exact hall j h
        · have : j = m := by omega
          rw [this]; exact hb
      | true =>
        rw [iter_ret (h2 m (by omega) hb), if_neg]
        simp only [List.all_eq_true, List.mem_range, Bool.not_eq_true']
        intro h
        rw [h m (by omega)] at hb
        cases hb
  exact key n 0 (by omega) (fun j hj => by omega)
theorem w64s {n : Nat} (h : n < 9223372036854775807) : w64 ((n : Int) + 1) = ((n + 1 : Nat) : Int) := by
  rw [w64_id (by omega) (by omega)]; omega
theorem dtt {p : Prop} [Decidable p] (h : p) : decide p = true := decide_eq_true h
theorem dff {p : Prop} [Decidable p] (h : ¬p) : decide p = false := decide_eq_false h

theorem vg_nat {α : Type} {m : Nat} {z : α} {v : Vector α m} {j : Nat} (h : j < m) : vg z v (j : Int) = v[j] := by
  unfold vg
  rw [Int.toNat_natCast, List.getD_eq_getElem?_getD, List.getElem?_eq_getElem (by simpa using h)]
  simp
theorem gl_nat {α : Type} {z : α} {l : List α} {j : Nat} (h : j < l.length) : gl z l (j : Int) = l[j] := by
  unfold gl
  rw [Int.toNat_natCast, List.getD_eq_getElem?_getD, List.getElem?_eq_getElem h]
  rfl
/-- v's first j places, 0 behind -/
def upTo (v : Form) (j : Nat) : Form := Vector.ofFn fun i : Fin 9 => if i.1 < j then v[i.1] else 0
theorem laws_toForm_eq (v : Form) : laws_toForm v = some v := by
  unfold laws_toForm
  have h := iter_up (body := fun s => laws_toForm_l1 v s.1 s.2) (fun j => ((j : Int), upTo v j)) 9 (s' := (9, upTo v 9)) (fun j hj => by
    show laws_toForm_l1 v (j : Int) (upTo v j) = _
    unfold laws_toForm_l1
    rw [dtt (by omega : (j : Int) < 9), if_pos rfl, if_pos (by omega), w64s (by omega), vg_nat hj]
    congr 4
    unfold vs upTo
    apply Vector.ext
    intro i hi
    simp only [Int.toNat_natCast, Vector.getElem_setIfInBounds hi, Vector.getElem_ofFn]
    by_cases h : j = i
    · subst h; simp
    · rw [if_neg h]
      by_cases h2 : i < j
      · rw [if_pos h2, if_pos (by omega)]
      · rw [if_neg h2, if_neg (by omega)]) (by
    show laws_toForm_l1 v 9 _ = _
    unfold laws_toForm_l1
    rw [dff (by omega), if_neg (by decide)])
  have e0 : upTo v 0 = zForm := by
    apply Vector.ext
    intro i hi
    simp [upTo, zForm]
  have e9 : upTo v 9 = v := by
    apply Vector.ext
    intro i hi
    simp [upTo, hi]
  rw [e0, e9] at h
  rw [show ((0 : Nat) : Int) = 0 from rfl] at h
  rw [h]
  rfl
theorem laws_toProduct_eq (q : Prod) : laws_toProduct q = some q := by
  unfold laws_toProduct
  rw [laws_toForm_eq, laws_toForm_eq, laws_toForm_eq]
  rfl
theorem laws_toProductS_eq {l : List Prod} (h : l.length ≤ 1048576) : laws_toProductS l = some l := by
  unfold laws_toProductS
  rw [if_pos ⟨by omega, by omega⟩]
  have h := iter_up (body := fun s => laws_toProductS_l2 l s.1 s.2) (fun j => ((j : Int), l.take j ++ List.replicate (l.length - j) zProd)) l.length (s' := ((l.length : Int), l)) (fun j hj => by
    show laws_toProductS_l2 l (j : Int) (l.take j ++ List.replicate (l.length - j) zProd) = _
    unfold laws_toProductS_l2
    rw [dtt (by omega : (j : Int) < l.length), if_pos rfl, if_pos (by omega), laws_toProduct_eq]
    show (if _ then _ else _) = _
    rw [if_pos ⟨by omega, by simp; omega⟩, w64s (by omega), gl_nat hj]
    congr 4
    rw [Int.toNat_natCast]
    have e1 : List.replicate (l.length - j) zProd = zProd :: List.replicate (l.length - (j + 1)) zProd := by
      rw [show l.length - j = (l.length - (j + 1)) + 1 by omega, List.replicate_succ]
    have m1 : (l.take j).length = j := by rw [List.length_take]; omega
    rw [e1, List.set_append_right _ _ (by omega), m1, Nat.sub_self, List.set_cons_zero, ← List.take_append_getElem hj, List.append_assoc]
    rfl) (by
    show laws_toProductS_l2 l (l.length : Int) _ = _
    unfold laws_toProductS_l2
    rw [dff (by omega), if_neg (by decide)]
    simp)
  simp only [List.take_zero, List.nil_append, Nat.sub_zero] at h
  rw [show ((0 : Nat) : Int) = 0 from rfl] at h
  rw [Int.toNat_natCast, h]
  rfl
theorem laws_toScheme_eq {a : Sch} (h : a.ps.length ≤ 1048576) : laws_toScheme a = some a := by
  unfold laws_toScheme
  rw [laws_toProductS_eq h]
  rfl

theorem laws_szScheme_eq {a : Sch} {left : Int} (h0 : left ≤ 1048576) (h1 : 0 ≤ left) (hl : a.ps.length ≤ 9223372036854775807) : laws_szScheme a left = some (if (a.ps.length : Int) ≤ left then left - a.ps.length else -1) := by
  unfold laws_szScheme laws_szProductS
  rw [w64_id (by omega) (by omega)]
  by_cases h : (a.ps.length : Int) ≤ left
  · rw [dff (by omega), if_neg (by decide), if_pos h]
    show (if decide (left - (a.ps.length : Int) < 0) = true then _ else _) = _
    rw [dff (by omega), if_neg (by decide)]
  · rw [dtt (by omega), if_pos rfl, if_neg h]
    rfl

instance : DecidableEq Sch := fun x y => by
  cases x; cases y
  simp only [Sch.mk.injEq]
  exact inferInstance

theorem nat_ne {x y : UInt8} : ((x.toNat : Int) ≠ (y.toNat : Int)) ↔ x ≠ y := by
  rw [ne_eq, ne_eq, Int.ofNat_inj, UInt8.toNat_inj]
theorem laws_eqForm_eq (x y : Form) : laws_eqForm x y = some (decide (x = y)) := by
  unfold laws_eqForm
  have h := iter_find (body := fun s => laws_eqForm_l1 x y s) (fun j => (j : Int)) 9 (fun j => if h : j < 9 then decide (x[j] ≠ y[j]) else false) false (s' := 9) (fun j hj hb => by
    show laws_eqForm_l1 x y (j : Int) = _
    unfold laws_eqForm_l1
    simp only [hj, dite_true, decide_eq_false_iff_not] at hb
    rw [dtt (by omega : (j : Int) < 9), if_pos rfl, if_pos (by omega), vg_nat hj, vg_nat hj, dff (by rw [nat_ne]; exact hb), if_neg (by decide), w64s (by omega)]) (fun j hj hb => by
    show laws_eqForm_l1 x y (j : Int) = _
    unfold laws_eqForm_l1
    simp only [hj, dite_true, decide_eq_true_eq] at hb
    rw [dtt (by omega : (j : Int) < 9), if_pos rfl, if_pos (by omega), vg_nat hj, vg_nat hj, dtt (by rw [nat_ne]; exact hb), if_pos rfl]) (by
    show laws_eqForm_l1 x y 9 = _
    unfold laws_eqForm_l1
    rw [dff (by omega), if_neg (by decide)])
  rw [show ((0 : Nat) : Int) = 0 from rfl] at h
  rw [h]
  by_cases hxy : x = y
  · subst hxy
    rw [if_pos (by simp [List.all_eq_true]), dtt rfl]
    rfl
  · rw [if_neg, dff hxy]
    · rfl
    · intro hall
      apply hxy
      apply Vector.ext
      intro i hi
      have := List.all_eq_true.1 hall i (List.mem_range.2 hi)
      simpa [hi] using this
theorem laws_eqProduct_eq (x y : Prod) : laws_eqProduct x y = some (decide (x = y)) := by
  unfold laws_eqProduct
  rw [laws_eqForm_eq, laws_eqForm_eq, laws_eqForm_eq]
  obtain ⟨x1, x2, x3⟩ := x
  obtain ⟨y1, y2, y3⟩ := y
  simp only [Option.bind_some]
  by_cases h1 : x1 = y1 <;> by_cases h2 : x2 = y2 <;> by_cases h3 : x3 = y3 <;> simp [h1, h2, h3]
theorem laws_eqProductS_eq {x y : List Prod} (hx : x.length < 9223372036854775807) : laws_eqProductS x y = some (decide (x = y)) := by
  unfold laws_eqProductS
  by_cases hl : x.length = y.length
  · rw [dff (by omega), if_neg (by decide)]
    have h := iter_find (body := fun s => laws_eqProductS_l2 x y s) (fun j => (j : Int)) x.length (fun j => if h : j < x.length then decide (x[j] ≠ y[j]'(by omega)) else false) false (s' := (x.length : Int)) (fun j hj hb => by
      show laws_eqProductS_l2 x y (j : Int) = _
      unfold laws_eqProductS_l2
      simp only [hj, dite_true, decide_eq_false_iff_not] at hb
      rw [dtt (by omega : (j : Int) < x.length), if_pos rfl, if_pos (by omega), if_pos (by omega), gl_nat hj, gl_nat (by omega), laws_eqProduct_eq]
      simp only [Option.bind_some]
      rw [dtt (Classical.not_not.1 hb), if_neg (by decide), w64s (by omega)]) (fun j hj hb => by
      show laws_eqProductS_l2 x y (j : Int) = _
      unfold laws_eqProductS_l2
      simp only [hj, dite_true, decide_eq_true_eq] at hb
      rw [dtt (by omega : (j : Int) < x.length), if_pos rfl, if_pos (by omega), if_pos (by omega), gl_nat hj, gl_nat (by omega), laws_eqProduct_eq]
      simp only [Option.bind_some]
      rw [dff hb]
      rfl) (by
      show laws_eqProductS_l2 x y (x.length : Int) = _
      unfold laws_eqProductS_l2
      rw [dff (by omega), if_neg (by decide)])
    rw [show ((0 : Nat) : Int) = 0 from rfl] at h
    rw [h]
    by_cases hxy : x = y
    · subst hxy
      rw [if_pos (by simp [List.all_eq_true]), dtt rfl]
      rfl
    · rw [if_neg, dff hxy]
      · rfl
      · intro hall
        apply hxy
        apply List.ext_getElem hl
        intro i hi hi'
        have := List.all_eq_true.1 hall i (List.mem_range.2 hi)
        simpa [hi] using this
  · rw [dtt (by omega), if_pos rfl, dff (by intro h; rw [h] at hl; exact hl rfl)]
theorem laws_eqScheme_eq {x y : Sch} (hx : x.ps.length < 9223372036854775807) : laws_eqScheme x y = some (decide (x = y)) := by
  unfold laws_eqScheme
  rw [laws_eqProductS_eq hx]
  obtain ⟨p, n, m, k, l⟩ := x
  obtain ⟨p', n', m', k', l'⟩ := y
  simp only [Option.bind_some]
  by_cases h1 : p = p' <;> by_cases h2 : n = n' <;> by_cases h3 : m = m' <;> by_cases h4 : k = k' <;> by_cases h5 : l = l' <;> simp [h1, h2, h3, h4, h5]
end Go.Proofs.YtB
