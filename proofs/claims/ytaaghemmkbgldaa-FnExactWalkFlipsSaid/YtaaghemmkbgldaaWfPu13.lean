/- Plain laws: the flips of a scheme; walks by flips, in both forms. -/
import Derived.Test.YtaaghemmkbgldaaWfPu12
import Derived.Test.YtaaghemmkbgldaaWfG1
import Derived.Test.YtaaghemmkbgldaaWfG3
set_option linter.unusedVariables false
set_option linter.unusedSimpArgs false
namespace Go.Proofs.YtB
open Go Go.RowKit Go.Proofs

/-- a loop that counts up to n and adds to a list -/
theorem iter_acc {γ ρ : Type} {body : Int × List γ → Option (LR (Int × List γ) ρ)} (n K c : Nat) (g : Nat → List γ) (hg : ∀ j, j < n → (g j).length ≤ c) (h : ∀ (j : Nat) acc, j < n → acc.length ≤ K + j * c → body ((j : Int), acc) = some (.next (((j + 1 : Nat) : Int), acc ++ g j)))
    (hs : ∀ acc, body ((n : Int), acc) = some (.stop ((n : Int), acc))) (acc0 : List γ) (h0 : acc0.length ≤ K) : iter body (0, acc0) = some (.stop ((n : Int), acc0 ++ (List.range n).flatMap g)) ∧ ((List.range n).flatMap g).length ≤ n * c := by
  have hlen : ∀ j, j ≤ n → ((List.range j).flatMap g).length ≤ j * c := by
    intro j
    induction j with
    | zero => intro _; simp
    | succ j ih =>
      intro hj
      rw [List.range_succ, List.flatMap_append, List.length_append]
      have h1 := ih (by omega)
      have h2 := hg j (by omega)
      simp only [List.flatMap_cons, List.flatMap_nil, List.append_nil]
      rw [Nat.succ_mul]
      omega
  refine ⟨?_, hlen n (Nat.le_refl _)⟩
  have := iter_up (body := body) (fun j => ((j : Int), acc0 ++ (List.range j).flatMap g)) n (s' := ((n : Int), acc0 ++ (List.range n).flatMap g)) (fun j hj => by
    rw [h j _ hj (by rw [List.length_append]; have := hlen j (by omega); omega), List.range_succ, List.flatMap_append, List.append_assoc]
    simp) (hs _)
  simpa using this
def gf (L : List Prod) (i k f : Nat) : List (List Int) := if i ≠ k ∧ fac (gl zProd L i) f = fac (gl zProd L k) f then [[(i : Int), (k : Int), (f : Int)]] else []
def gk (L : List Prod) (i k : Nat) : List (List Int) := (List.range 3).flatMap (gf L i k)
def gi3 (L : List Prod) (i : Nat) : List (List Int) := (List.range L.length).flatMap (gk L i)
def flipsL (L : List Prod) : List (List Int) := (List.range L.length).flatMap (gi3 L)
theorem gf_yes {L : List Prod} {i k f : Nat} (h1 : i ≠ k) (h2 : fac (gl zProd L i) f = fac (gl zProd L k) f) : gf L i k f = [[(i : Int), (k : Int), (f : Int)]] := if_pos ⟨h1, h2⟩
theorem gf_no {L : List Prod} {i k f : Nat} (h : i = k ∨ fac (gl zProd L i) f ≠ fac (gl zProd L k) f) : gf L i k f = [] := if_neg (fun h' => by rcases h with h | h; exact h'.1 h; exact h h'.2)
theorem gf_len (L : List Prod) (i k f : Nat) : (gf L i k f).length ≤ 1 := by unfold gf; split <;> simp
theorem fm_len {γ : Type} {n c : Nat} {g : Nat → List γ} (hg : ∀ j, j < n → (g j).length ≤ c) : ((List.range n).flatMap g).length ≤ n * c := by
  induction n with
  | zero => simp
  | succ n ih =>
    have h1 := ih (fun j hj => hg j (by omega))
    have h2 := hg n (by omega)
    rw [List.range_succ, List.flatMap_append, List.length_append]
    simp only [List.flatMap_cons, List.flatMap_nil, List.append_nil]
    rw [Nat.succ_mul]
    omega
theorem gk_len (L : List Prod) (i k : Nat) : (gk L i k).length ≤ 3 := fm_len (c := 1) fun j _ => gf_len L i k j
theorem gi3_len (L : List Prod) (i : Nat) : (gi3 L i).length ≤ L.length * 3 := fm_len fun j _ => gk_len L i j
theorem flips_mem {L : List Prod} {x : List Int} (h : x ∈ flipsL L) : ∃ i k f : Nat, i < L.length ∧ k < L.length ∧ f < 3 ∧ x = [(i : Int), (k : Int), (f : Int)] := by
  unfold flipsL gi3 gk gf at h
  simp only [List.mem_flatMap, List.mem_range] at h
  obtain ⟨i, hi, k, hk, f, hf, hx⟩ := h
  split at hx
  · exact ⟨i, k, f, hi, hk, hf, List.mem_singleton.1 hx⟩
  · cases hx
theorem fl_s3 (a : Sch) (hl : a.ps.length ≤ 60) {i k : Nat} (hi : i < a.ps.length) (hk : k < a.ps.length) (acc : List (List Int)) (hacc : acc.length ≤ 20000) :
    ∃ t, iter (fun s : Int × List (List Int) => spec_l03Flips_l11 a (i : Int) (k : Int) s.1 s.2) (0, acc) = some (.stop (t, acc ++ gk a.ps i k)) := by
  by_cases hik : i = k
  · refine ⟨0, ?_⟩
    have hg : gk a.ps i k = [] := by
      unfold gk gf
      simp [hik]
    rw [hg, List.append_nil]
    refine iter_stop ?_
    show spec_l03Flips_l11 a (i : Int) (k : Int) 0 acc = _
    unfold spec_l03Flips_l11
    rw [show decide ((0 : Int) < 3) = true from rfl, dff (show ¬ (i : Int) ≠ (k : Int) by omega)]
    rfl
  · have hik' : (i : Int) ≠ (k : Int) := by omega
    refine ⟨3, (iter_acc (ρ := List (List Int)) (body := fun s : Int × List (List Int) => spec_l03Flips_l11 a (i : Int) (k : Int) s.1 s.2) 3 20000 1 (gf a.ps i k) (fun j _ => gf_len _ _ _ _) (fun j acc hj hacc => ?_) (fun acc => ?_) acc hacc).1⟩
    · show spec_l03Flips_l11 a (i : Int) (k : Int) (j : Int) acc = _
      unfold spec_l03Flips_l11
      rw [dtt (show (j : Int) < 3 by omega), dtt hik']
      simp only [if_true, Option.bind_some, if_pos (show 0 ≤ (i : Int) ∧ (i : Int) < a.ps.length by omega), if_pos (show 0 ≤ (k : Int) ∧ (k : Int) < a.ps.length by omega), factor_s]
      by_cases he : fac (gl zProd a.ps i) j = fac (gl zProd a.ps k) j
      · rw [dtt he, gf_yes hik he]
        simp only [if_true]
        rw [if_pos (by simp only [List.length_singleton]; omega), w64s (by omega)]
      · rw [dff he, gf_no (.inr he), List.append_nil]
        simp only [Bool.false_eq_true, if_false]
        rw [w64s (by omega)]
    · show spec_l03Flips_l11 a (i : Int) (k : Int) 3 acc = _
      unfold spec_l03Flips_l11
      rfl
theorem fl_i3 (a : Sch) (hl : a.ps.length ≤ 60) {i k : Nat} (hi : i < a.ps.length) (hk : k < a.ps.length) (acc : List (List Int)) (hacc : acc.length ≤ 20000) :
    ∃ t, iter (fun s : Int × List (List Int) => impl_flips_l15 a (i : Int) (k : Int) s.1 s.2) (0, acc) = some (.stop (t, acc ++ gk a.ps i k)) := by
  refine ⟨3, (iter_acc (ρ := List (List Int)) (body := fun s : Int × List (List Int) => impl_flips_l15 a (i : Int) (k : Int) s.1 s.2) 3 20000 1 (gf a.ps i k) (fun j _ => gf_len _ _ _ _) (fun j acc hj hacc => ?_) (fun acc => ?_) acc hacc).1⟩
  · show impl_flips_l15 a (i : Int) (k : Int) (j : Int) acc = _
    unfold impl_flips_l15 impl_factors
    simp only [dtt (show (j : Int) < 3 by omega), if_true, Option.bind_some, if_pos (show 0 ≤ (j : Int) ∧ (j : Int) < 3 by omega), fac_v _ (show 0 ≤ (j : Int) by omega) (show (j : Int) ≤ 2 by omega)]
    by_cases hik : i = k
    · rw [dff (show ¬ (i : Int) ≠ (k : Int) by omega), gf_no (.inl hik), List.append_nil]
      simp only [Bool.false_eq_true, if_false, Option.bind_some]
      rw [w64s (by omega)]
    · rw [dtt (show (i : Int) ≠ (k : Int) by omega)]
      simp only [if_true, Option.bind_some]
      by_cases he : fac (gl zProd a.ps i) j = fac (gl zProd a.ps k) j
      · rw [dtt he, gf_yes hik he]
        simp only [if_true]
        rw [if_pos (by simp only [List.length_singleton]; omega), w64s (by omega)]
      · rw [dff he, gf_no (.inr he), List.append_nil]
        simp only [Bool.false_eq_true, if_false]
        rw [w64s (by omega)]
  · show impl_flips_l15 a (i : Int) (k : Int) 3 acc = _
    unfold impl_flips_l15
    rfl
theorem fl_s2 (a : Sch) (hl : a.ps.length ≤ 60) {i : Nat} (hi : i < a.ps.length) (acc : List (List Int)) (hacc : acc.length ≤ 11000) :
    iter (fun s : Int × List (List Int) => spec_l03Flips_l6 a (i : Int) s.1 s.2) (0, acc) = some (.stop ((a.ps.length : Int), acc ++ gi3 a.ps i)) := by
  refine (iter_acc (ρ := List (List Int)) (body := fun s : Int × List (List Int) => spec_l03Flips_l6 a (i : Int) s.1 s.2) a.ps.length 11000 3 (gk a.ps i) (fun j _ => gk_len _ _ _) (fun j acc hj hacc => ?_) (fun acc => ?_) acc hacc).1
  · show spec_l03Flips_l6 a (i : Int) (j : Int) acc = _
    unfold spec_l03Flips_l6
    obtain ⟨t, ht⟩ := fl_s3 a hl hi hj acc (by omega)
    rw [dtt (show (j : Int) < a.ps.length by omega), if_pos rfl, ht]
    simp only [Option.bind_some]
    rw [w64s (by omega)]
  · show spec_l03Flips_l6 a (i : Int) (a.ps.length : Int) acc = _
    unfold spec_l03Flips_l6
    rw [dff (by omega), if_neg (by decide)]
theorem fl_i2 (a : Sch) (hl : a.ps.length ≤ 60) {i : Nat} (hi : i < a.ps.length) (acc : List (List Int)) (hacc : acc.length ≤ 11000) :
    iter (fun s : Int × List (List Int) => impl_flips_l8 a (i : Int) s.1 s.2) (0, acc) = some (.stop ((a.ps.length : Int), acc ++ gi3 a.ps i)) := by
  refine (iter_acc (ρ := List (List Int)) (body := fun s : Int × List (List Int) => impl_flips_l8 a (i : Int) s.1 s.2) a.ps.length 11000 3 (gk a.ps i) (fun j _ => gk_len _ _ _) (fun j acc hj hacc => ?_) (fun acc => ?_) acc hacc).1
  · show impl_flips_l8 a (i : Int) (j : Int) acc = _
    unfold impl_flips_l8
    obtain ⟨t, ht⟩ := fl_i3 a hl hi hj acc (by omega)
    simp only [dtt (show (j : Int) < a.ps.length by omega), if_true, if_pos (show 0 ≤ (j : Int) ∧ (j : Int) < a.ps.length by omega)]
    rw [ht]
    simp only [Option.bind_some]
    rw [w64s (by omega)]
  · show impl_flips_l8 a (i : Int) (a.ps.length : Int) acc = _
    unfold impl_flips_l8
    rw [dff (by omega), if_neg (by decide)]
theorem flips_s (a : Sch) (hl : a.ps.length ≤ 60) : spec_l03Flips a = some (flipsL a.ps) := by
  unfold spec_l03Flips
  have h := (iter_acc (ρ := List (List Int)) (body := fun s : Int × List (List Int) => spec_l03Flips_l1 a s.1 s.2) a.ps.length 0 180 (gi3 a.ps) (fun j _ => by have := gi3_len a.ps j; omega) (fun j acc hj hacc => by
    show spec_l03Flips_l1 a (j : Int) acc = _
    unfold spec_l03Flips_l1
    rw [dtt (show (j : Int) < a.ps.length by omega), if_pos rfl, fl_s2 a hl hj acc (by have : j * 180 ≤ 60 * 180 := Nat.mul_le_mul_right _ (by omega); omega)]
    simp only [Option.bind_some]
    rw [w64s (by omega)]) (fun acc => by
    show spec_l03Flips_l1 a (a.ps.length : Int) acc = _
    unfold spec_l03Flips_l1
    rw [dff (by omega), if_neg (by decide)]) [] (by simp)).1
  rw [h]
  rfl
theorem flips_i (a : Sch) (hl : a.ps.length ≤ 60) : impl_flips a = some (flipsL a.ps) := by
  unfold impl_flips
  have h := (iter_acc (ρ := List (List Int)) (body := fun s : Int × List (List Int) => impl_flips_l1 a s.1 s.2) a.ps.length 0 180 (gi3 a.ps) (fun j _ => by have := gi3_len a.ps j; omega) (fun j acc hj hacc => by
    show impl_flips_l1 a (j : Int) acc = _
    unfold impl_flips_l1
    simp only [dtt (show (j : Int) < a.ps.length by omega), if_true, if_pos (show 0 ≤ (j : Int) ∧ (j : Int) < a.ps.length by omega)]
    rw [fl_i2 a hl hj acc (by have : j * 180 ≤ 60 * 180 := Nat.mul_le_mul_right _ (by omega); omega)]
    simp only [Option.bind_some]
    rw [w64s (by omega)]) (fun acc => by
    show impl_flips_l1 a (a.ps.length : Int) acc = _
    unfold impl_flips_l1
    rw [dff (by omega), if_neg (by decide)]) [] (by simp)).1
  rw [h]
  rfl
theorem flips_len (L : List Prod) (hl : L.length ≤ 60) : (flipsL L).length ≤ 10800 := by
  have := fm_len (n := L.length) (c := 180) (g := gi3 L) (fun j _ => by have := gi3_len L j; omega)
  have h2 : L.length * 180 ≤ 60 * 180 := Nat.mul_le_mul_right _ hl
  unfold flipsL
  omega
end Go.Proofs.YtB
