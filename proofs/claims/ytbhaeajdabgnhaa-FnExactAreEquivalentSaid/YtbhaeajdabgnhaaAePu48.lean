/- Plain laws: how many changes lead from a small scheme to another, in both forms. -/
import Derived.Test.YtbhaeajdabgnhaaAePu47
import Derived.Test.YtbhaeajdabgnhaaAePu31
import Derived.Test.YtbhaeajdabgnhaaAeG2
import Derived.Test.YtbhaeajdabgnhaaAeG3
set_option linter.unusedVariables false
set_option linter.unusedSimpArgs false
namespace Go.Proofs.YtB
open Go Go.RowKit Go.Proofs
theorem sum_le216 {α : Type} {w : α → Nat} {b : Nat} : ∀ {X : List α}, (∀ x ∈ X, w x ≤ b) → (X.map w).sum ≤ X.length * b
  | [], _ => by simp
  | x :: X, h => by
    have := sum_le216 (w := w) (b := b) (X := X) (fun y hy => h y (by simp [hy]))
    have := h x (by simp)
    simp only [List.map_cons, List.sum_cons, List.length_cons, Nat.succ_mul]
    omega
theorem count_loop {α ρ : Type} {body : Int × Int → Option (LR (Int × Int) ρ)} (X : List α) (w : α → Nat) (b : Nat) (hw : ∀ x ∈ X, w x ≤ b) (s0 : Nat)
    (hb : ∀ (j : Nat) (hj : j < X.length) (s : Nat), s ≤ s0 + j * b → body ((s : Int), (j : Int)) = some (.next (((s + w X[j] : Nat) : Int), ((j + 1 : Nat) : Int)))) (he : ∀ s : Nat, body ((s : Int), (X.length : Int)) = some (.stop ((s : Int), (X.length : Int)))) :
    iter body ((s0 : Int), 0) = some (.stop (((s0 + (X.map w).sum : Nat) : Int), (X.length : Int))) := by
  have := iter_up (body := body) (fun j => (((s0 + ((X.take j).map w).sum : Nat) : Int), (j : Int))) X.length (s' := (((s0 + (X.map w).sum : Nat) : Int), (X.length : Int))) (fun j hj => by
    have h1 := sum_le216 (w := w) (b := b) (X := X.take j) (fun x hx => hw x (List.mem_of_mem_take hx))
    have h2 : (X.take j).length = j := by rw [List.length_take]; omega
    rw [h2] at h1
    rw [hb j hj _ (by omega), ← List.take_append_getElem hj, List.map_append, List.sum_append]
    simp [Nat.add_assoc]) (by
    rw [he, List.take_length])
  simpa using this
def cnt3 {α : Type} (X Y Z : List α) (φ : α → α → α → Bool) : Nat := (X.map fun x => (Y.map fun y => (Z.map fun z => if φ x y z then 1 else 0).sum).sum).sum
theorem cnt3_perm {α : Type} {X X' Y Y' Z Z' : List α} (hX : X.Perm X') (hY : Y.Perm Y') (hZ : Z.Perm Z') (φ : α → α → α → Bool) : cnt3 X Y Z φ = cnt3 X' Y' Z' φ := by
  unfold cnt3
  have e1 : ∀ x y, (Z.map fun z => if φ x y z then 1 else 0).sum = (Z'.map fun z => if φ x y z then 1 else 0).sum := fun x y => (hZ.map _).sum_nat
  have e2 : ∀ x, (Y.map fun y => (Z.map fun z => if φ x y z then 1 else 0).sum).sum = (Y'.map fun y => (Z'.map fun z => if φ x y z then 1 else 0).sum).sum := fun x => by
    simp only [e1]
    exact (hY.map _).sum_nat
  simp only [e2]
  exact (hX.map _).sum_nat
theorem equalP_i {x y : List Prod} (hx : x.length < 9223372036854775807) : slices_Equal_148 x y = some (decide (x = y)) := by
  unfold slices_Equal_148
  by_cases hl : x.length = y.length
  · rw [dff (by omega), if_neg (by decide)]
    have h := iter_find (body := fun s : Int => slices_Equal_148_l2 x y s) (fun j => (j : Int)) x.length (fun j => if hj : j < x.length then decide (x[j] ≠ y[j]'(by omega)) else false) false (s' := (x.length : Int)) (fun j hj hb => by
      rw [dif_pos hj] at hb
      show slices_Equal_148_l2 x y (j : Int) = _
      unfold slices_Equal_148_l2
      rw [dtt (by omega), if_pos rfl, if_pos ⟨by omega, by omega⟩, if_pos ⟨by omega, by omega⟩, gl_nat hj, gl_nat (by omega), hb, if_neg (by decide), w64s (by omega)]) (fun j hj hb => by
      rw [dif_pos hj] at hb
      show slices_Equal_148_l2 x y (j : Int) = _
      unfold slices_Equal_148_l2
      rw [dtt (by omega), if_pos rfl, if_pos ⟨by omega, by omega⟩, if_pos ⟨by omega, by omega⟩, gl_nat hj, gl_nat (by omega), hb, if_pos rfl]) (by
      show slices_Equal_148_l2 x y (x.length : Int) = _
      unfold slices_Equal_148_l2
      rw [dff (by omega), if_neg (by decide)])
    rw [show ((0 : Nat) : Int) = 0 from rfl] at h
    rw [h]
    by_cases hxy : x = y
    · subst hxy
      rw [if_pos (by
        rw [List.all_eq_true]
        intro j hj
        simp only [Bool.not_eq_true', dite_eq_right_iff]
        intro h1; simp), dtt rfl]
      rfl
    · rw [if_neg (by
        rw [List.all_eq_true]
        intro hall
        apply hxy
        apply List.ext_getElem hl
        intro j h1 h2
        have := hall j (List.mem_range.2 h1)
        rw [dif_pos h1] at this
        simpa using this), dff hxy]
      rfl
  · rw [dtt (by omega), if_pos rfl, dff (fun h => hl (by rw [h]))]
theorem same_s {x y : Sch} (hx : x.ps.length < 9223372036854775807) : spec_l04Same x y = some (decide (x.ps = y.ps)) := by
  have h := equalP_i (x := x.ps) (y := y.ps) hx
  rw [← h]
  unfold spec_l04Same slices_Equal_148
  have : (fun s => spec_l04Same_l2 x y s) = fun s => slices_Equal_148_l2 x.ps y.ps s := by
    funext s
    rfl
  rw [this]
  all_goals rfl
def invL (n : Nat) (L : List (List Int)) : List (List Int) := match gj 2 n n 0 (augM n L) with
  | some M => outM n M
  | none => []
/-- a change of a's products, sorted -/
def chS (a : Sch) (n m k : Nat) (x y z : List (List Int)) : List Prod := srt (a.ps.map (chP 2 n m k (ge x) (ge y) (ge z) (ge (invL n x)) (ge (invL m y)) (ge (invL k z))))
structure Small (a : Sch) (n m k : Nat) : Prop where
  s : IsSch a
  p : a.p = 2
  en : a.n = n
  em : a.m = m
  ek : a.k = k
  n2 : 1 ≤ n ∧ n ≤ 2
  m2 : 1 ≤ m ∧ m ≤ 2
  k2 : 1 ≤ k ∧ k ≤ 2
theorem small_ch {a : Sch} {n m k : Nat} (h : Small a n m k) {x y z : List (List Int)} (hx : Sq 2 n x ∧ (gj 2 n n 0 (augM n x)).isSome = true) (hy : Sq 2 m y ∧ (gj 2 m m 0 (augM m y)).isSome = true) (hz : Sq 2 k z ∧ (gj 2 k k 0 (augM k z)).isSome = true) :
    ∃ ps : List Prod, impl_changed a x y z = some ⟨a.p, a.n, a.m, a.k, ps⟩ ∧ spec_l04Change a (x, y, z) (invL n x, invL m y, invL k z) = some ⟨a.p, a.n, a.m, a.k, ps⟩ ∧ ps.length ≤ 30 ∧ srt ps = chS a n m k x y z ∧ spec_l04Inverse 2 x = some (invL n x, true) ∧ spec_l04Inverse 2 y = some (invL m y, true) ∧ spec_l04Inverse 2 z = some (invL k z, true) := by
  obtain ⟨M1, g1⟩ := Option.isSome_iff_exists.1 hx.2
  obtain ⟨M2, g2⟩ := Option.isSome_iff_exists.1 hy.2
  obtain ⟨M3, g3⟩ := Option.isSome_iff_exists.1 hz.2
  have i1 : invL n x = outM n M1 := by unfold invL; rw [g1]
  have i2 : invL m y = outM m M2 := by unfold invL; rw [g2]
  have i3 : invL k z = outM k M3 := by unfold invL; rw [g3]
  have s1 := inverse_sq p2 hx.1
  have s2 := inverse_sq p2 hy.1
  have s3 := inverse_sq p2 hz.1
  rw [g1] at s1
  rw [g2] at s2
  rw [g3] at s3
  have hp := h.p
  have c := changed_both h.s h.en h.em h.ek (L1 := x) (L2 := y) (L3 := z) (by rw [hp]; exact hx.1) (by rw [hp]; exact hy.1) (by rw [hp]; exact hz.1) (M1 := M1) (M2 := M2) (M3 := M3) (by rw [hp]; exact g1) (by rw [hp]; exact g2) (by rw [hp]; exact g3)
  have hl := h.s.l
  refine ⟨_, c.1, by rw [i1, i2, i3]; exact c.2, by rw [List.length_map]; exact hl, ?_, by rw [i1]; exact s1, by rw [i2]; exact s2, by rw [i3]; exact s3⟩
  unfold chS
  rw [i1, i2, i3, hp]
def phi (a : Sch) (n m k : Nat) (t : List Prod) (x y z : List (List Int)) : Bool := decide (chS a n m k x y z = t)
theorem IL_ok {n : Nat} (h1 : 1 ≤ n ∧ n ≤ 2) {L : List (List Int)} (hL : L ∈ IL n) : Sq 2 n L ∧ (gj 2 n n 0 (augM n L)).isSome = true := TL_ok h1.1 h1.2 ((IL_TL n).mem_iff.1 hL)
theorem TL_len (n : Nat) : (TL n).length ≤ 6 := by rw [← (IL_TL n).length_eq]; exact IL_len n
theorem gl_mem' {X : List (List (List Int))} {j : Nat} (hj : j < X.length) : gl [] X (j : Int) = X[j] := gl_nat hj
theorem sum01 {α : Type} (Z : List α) (q : α → Bool) (h : Z.length ≤ 6) : (Z.map fun z => if q z then 1 else 0).sum ≤ 6 := by
  have := sum_le216 (w := fun z => if q z then 1 else 0) (b := 1) (X := Z) (fun z _ => by split <;> omega)
  omega
theorem sum02 {α : Type} (Y Z : List α) (q : α → α → Bool) (hY : Y.length ≤ 6) (h : Z.length ≤ 6) : (Y.map fun y => (Z.map fun z => if q y z then 1 else 0).sum).sum ≤ 36 := by
  have := sum_le216 (w := fun y => (Z.map fun z => if q y z then 1 else 0).sum) (b := 6) (X := Y) (fun y _ => sum01 Z (q y) h)
  omega
theorem count_i {a b : Sch} {n m k : Nat} (h : Small a n m k) (hb : b.ps.length ≤ 30) : impl_countChanges a b = some ((cnt3 (IL n) (IL m) (IL k) (phi a n m k (srt b.ps)) : Nat) : Int) := by
  have hn := IL_len n
  have hm := IL_len m
  have hk := IL_len k
  have inner : ∀ (i : Nat) (hi : i < (IL n).length) (j : Nat) (hj : j < (IL m).length) (s : Nat), s ≤ 1000 → iter (fun s : Int × Int => impl_countChanges_l29 a ⟨b.p, b.n, b.m, b.k, srt b.ps⟩ (IL n) (i : Int) (IL m) (j : Int) (IL k) s.1 s.2) ((s : Int), 0) = some (.stop (((s + ((IL k).map fun z => if phi a n m k (srt b.ps) (IL n)[i] (IL m)[j] z then 1 else 0).sum : Nat) : Int), ((IL k).length : Int))) := fun i hi j hj s hs =>
    count_loop (IL k) (fun z => if phi a n m k (srt b.ps) (IL n)[i] (IL m)[j] z then 1 else 0) 1 (fun z _ => by split <;> omega) s (fun t ht s hs => by
      show impl_countChanges_l29 a ⟨b.p, b.n, b.m, b.k, srt b.ps⟩ (IL n) (i : Int) (IL m) (j : Int) (IL k) (s : Int) (t : Int) = _
      obtain ⟨ps, c1, _, c3, c4, _⟩ := small_ch h (IL_ok h.n2 (List.getElem_mem hi)) (IL_ok h.m2 (List.getElem_mem hj)) (IL_ok h.k2 (List.getElem_mem ht))
      unfold impl_countChanges_l29
      rw [dtt (by omega), if_pos rfl, if_pos ⟨by omega, by omega⟩, gl_mem' hi, gl_mem' hj, gl_mem' ht, c1]
      simp only [Option.bind_some]
      rw [sorted_i _ (by show ps.length ≤ 1000; omega)]
      simp only [Option.bind_some]
      rw [equalP_i (by rw [srt_len]; omega), c4]
      simp only [Option.bind_some]
      unfold phi
      rw [w64s (by omega), w64s (by omega)]
      cases decide (chS a n m k (IL n)[i] (IL m)[j] (IL k)[t] = srt b.ps) <;> rfl) (fun s => by
      show impl_countChanges_l29 a ⟨b.p, b.n, b.m, b.k, srt b.ps⟩ (IL n) (i : Int) (IL m) (j : Int) (IL k) (s : Int) _ = _
      unfold impl_countChanges_l29
      rw [dff (by omega), if_neg (by decide)])
  have middle : ∀ (i : Nat) (hi : i < (IL n).length) (s : Nat), s ≤ 500 → iter (fun s : Int × Int => impl_countChanges_l19 a ⟨b.p, b.n, b.m, b.k, srt b.ps⟩ (IL n) (i : Int) (IL m) s.1 s.2) ((s : Int), 0) = some (.stop (((s + ((IL m).map fun y => ((IL k).map fun z => if phi a n m k (srt b.ps) (IL n)[i] y z then 1 else 0).sum).sum : Nat) : Int), ((IL m).length : Int))) := fun i hi s hs =>
    count_loop (IL m) (fun y => ((IL k).map fun z => if phi a n m k (srt b.ps) (IL n)[i] y z then 1 else 0).sum) 6 (fun y _ => sum01 (IL k) _ hk) s (fun j hj s hs => by
      show impl_countChanges_l19 a ⟨b.p, b.n, b.m, b.k, srt b.ps⟩ (IL n) (i : Int) (IL m) (s : Int) (j : Int) = _
      unfold impl_countChanges_l19
      rw [dtt (by omega), if_pos rfl, if_pos ⟨by omega, by omega⟩, h.ek, invertibles_i h.k2.1 h.k2.2]
      simp only [Option.bind_some]
      rw [inner i hi j hj _ (by omega)]
      simp only [Option.bind_some]
      rw [w64s (by omega)]) (fun s => by
      show impl_countChanges_l19 a ⟨b.p, b.n, b.m, b.k, srt b.ps⟩ (IL n) (i : Int) (IL m) _ _ = _
      unfold impl_countChanges_l19
      rw [dff (by omega), if_neg (by decide)])
  have outer := count_loop (body := fun s : Int × Int => impl_countChanges_l9 a ⟨b.p, b.n, b.m, b.k, srt b.ps⟩ (IL n) s.1 s.2) (IL n) (fun x => ((IL m).map fun y => ((IL k).map fun z => if phi a n m k (srt b.ps) x y z then 1 else 0).sum).sum) 36 (fun x _ => sum02 (IL m) (IL k) _ hm hk) 0 (fun i hi s hs => by
      show impl_countChanges_l9 a ⟨b.p, b.n, b.m, b.k, srt b.ps⟩ (IL n) (s : Int) (i : Int) = _
      unfold impl_countChanges_l9
      rw [dtt (by omega), if_pos rfl, if_pos ⟨by omega, by omega⟩, h.em, invertibles_i h.m2.1 h.m2.2]
      simp only [Option.bind_some]
      rw [middle i hi _ (by omega)]
      simp only [Option.bind_some]
      rw [w64s (by omega)]) (fun s => by
      show impl_countChanges_l9 a ⟨b.p, b.n, b.m, b.k, srt b.ps⟩ (IL n) _ _ = _
      unfold impl_countChanges_l9
      rw [dff (by omega), if_neg (by decide)])
  rw [Nat.zero_add, show ((0 : Nat) : Int) = 0 from rfl] at outer
  unfold impl_countChanges
  rw [sorted_i b (by omega)]
  simp only [Option.bind_some]
  rw [h.en, invertibles_i h.n2.1 h.n2.2]
  simp only [Option.bind_some]
  rw [outer]
  rfl
theorem count_s {a : Sch} {t : Sch} {n m k : Nat} (h : Small a n m k) : spec_l04Count a t = some ((cnt3 (TL n) (TL m) (TL k) (phi a n m k t.ps) : Nat) : Int) := by
  have hn := TL_len n
  have hm := TL_len m
  have hk := TL_len k
  have inner : ∀ (i : Nat) (hi : i < (TL n).length) (j : Nat) (hj : j < (TL m).length) (s : Nat), s ≤ 1000 → iter (fun s : Int × Int => spec_l04Count_l21 a t (TL n) (TL m) (TL k) (i : Int) (j : Int) s.1 s.2) ((s : Int), 0) = some (.stop (((s + ((TL k).map fun z => if phi a n m k t.ps (TL n)[i] (TL m)[j] z then 1 else 0).sum : Nat) : Int), ((TL k).length : Int))) := fun i hi j hj s hs =>
    count_loop (TL k) (fun z => if phi a n m k t.ps (TL n)[i] (TL m)[j] z then 1 else 0) 1 (fun z _ => by split <;> omega) s (fun u hu s hs => by
      show spec_l04Count_l21 a t (TL n) (TL m) (TL k) (i : Int) (j : Int) (s : Int) (u : Int) = _
      obtain ⟨ps, _, c2, c3, c4, v1, v2, v3⟩ := small_ch h (TL_ok h.n2.1 h.n2.2 (List.getElem_mem hi)) (TL_ok h.m2.1 h.m2.2 (List.getElem_mem hj)) (TL_ok h.k2.1 h.k2.2 (List.getElem_mem hu))
      unfold spec_l04Count_l21
      rw [dtt (by omega), if_pos rfl, if_pos ⟨by omega, by omega⟩, gl_mem' hi, gl_mem' hj, gl_mem' hu, v1]
      simp only [Option.bind_some]
      rw [if_pos ⟨by omega, by omega⟩, v2]
      simp only [Option.bind_some]
      rw [if_pos ⟨by omega, by omega⟩, v3]
      simp only [Option.bind_some]
      rw [c2]
      simp only [Option.bind_some]
      rw [sorted_s _ (by show ps.length ≤ 1000; omega)]
      simp only [Option.bind_some]
      rw [same_s (by show (srt ps).length < _; rw [srt_len]; omega)]
      dsimp only
      rw [c4]
      simp only [Option.bind_some]
      unfold phi
      rw [w64s (by omega), w64s (by omega)]
      cases decide (chS a n m k (TL n)[i] (TL m)[j] (TL k)[u] = t.ps) <;> rfl) (fun s => by
      show spec_l04Count_l21 a t (TL n) (TL m) (TL k) (i : Int) (j : Int) (s : Int) _ = _
      unfold spec_l04Count_l21
      rw [dff (by omega), if_neg (by decide)])
  have middle : ∀ (i : Nat) (hi : i < (TL n).length) (s : Nat), s ≤ 500 → iter (fun s : Int × Int => spec_l04Count_l17 a t (TL n) (TL m) (TL k) (i : Int) s.1 s.2) ((s : Int), 0) = some (.stop (((s + ((TL m).map fun y => ((TL k).map fun z => if phi a n m k t.ps (TL n)[i] y z then 1 else 0).sum).sum : Nat) : Int), ((TL m).length : Int))) := fun i hi s hs =>
    count_loop (TL m) (fun y => ((TL k).map fun z => if phi a n m k t.ps (TL n)[i] y z then 1 else 0).sum) 6 (fun y _ => sum01 (TL k) _ hk) s (fun j hj s hs => by
      show spec_l04Count_l17 a t (TL n) (TL m) (TL k) (i : Int) (s : Int) (j : Int) = _
      unfold spec_l04Count_l17
      rw [dtt (by omega), if_pos rfl, inner i hi j hj _ (by omega)]
      simp only [Option.bind_some]
      rw [w64s (by omega)]) (fun s => by
      show spec_l04Count_l17 a t (TL n) (TL m) (TL k) (i : Int) _ _ = _
      unfold spec_l04Count_l17
      rw [dff (by omega), if_neg (by decide)])
  have outer := count_loop (body := fun s : Int × Int => spec_l04Count_l13 a t (TL n) (TL m) (TL k) s.1 s.2) (TL n) (fun x => ((TL m).map fun y => ((TL k).map fun z => if phi a n m k t.ps x y z then 1 else 0).sum).sum) 36 (fun x _ => sum02 (TL m) (TL k) _ hm hk) 0 (fun i hi s hs => by
      show spec_l04Count_l13 a t (TL n) (TL m) (TL k) (s : Int) (i : Int) = _
      unfold spec_l04Count_l13
      rw [dtt (by omega), if_pos rfl, middle i hi _ (by omega)]
      simp only [Option.bind_some]
      rw [w64s (by omega)]) (fun s => by
      show spec_l04Count_l13 a t (TL n) (TL m) (TL k) _ _ = _
      unfold spec_l04Count_l13
      rw [dff (by omega), if_neg (by decide)])
  rw [Nat.zero_add, show ((0 : Nat) : Int) = 0 from rfl] at outer
  unfold spec_l04Count
  rw [h.en, h.em, h.ek, all_s h.n2.1 h.n2.2, all_s h.m2.1 h.m2.2, all_s h.k2.1 h.k2.2]
  simp only [Option.bind_some]
  rw [outer]
  rfl
theorem count_both {a b : Sch} {n m k : Nat} (h : Small a n m k) (hb : b.ps.length ≤ 30) : ∃ c : Nat, impl_countChanges a b = some (c : Int) ∧ spec_l04Count a ⟨b.p, b.n, b.m, b.k, srt b.ps⟩ = some (c : Int) ∧ (a.ps.length ≠ b.ps.length → c = 0) := by
  refine ⟨_, count_i h hb, ?_, fun hne => ?_⟩
  · rw [count_s h, cnt3_perm (IL_TL n) (IL_TL m) (IL_TL k)]
  · have hz : ∀ x y z, phi a n m k (srt b.ps) x y z = false := fun x y z => by
      unfold phi
      apply dff
      intro he
      have := congrArg List.length he
      unfold chS at this
      rw [srt_len, srt_len, List.length_map] at this
      exact hne this
    have sz : ∀ {α : Type} (X : List α), (X.map fun _ => 0).sum = 0 := fun X => by
      induction X with
      | nil => rfl
      | cons x X ih => simpa using ih
    unfold cnt3
    simp only [hz, Bool.false_eq_true, if_false, sz]
end Go.Proofs.YtB
