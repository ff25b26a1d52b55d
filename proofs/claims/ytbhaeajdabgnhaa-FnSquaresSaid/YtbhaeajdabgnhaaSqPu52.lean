/- Plain laws: draws. -/
import Derived.Test.YtbhaeajdabgnhaaSqPu45
import Derived.Test.YtbhaeajdabgnhaaSqG1
import Derived.Test.YtbhaeajdabgnhaaSqG2
set_option linter.unusedVariables false
set_option linter.unusedSimpArgs false
namespace Go.Proofs.YtB
open Go Go.RowKit Go.Proofs
theorem andu_rng (x : Int) : 0 ≤ andu x 16777215 ∧ andu x 16777215 ≤ 16777215 := by
  unfold andu
  have h1 : (BitVec.ofInt 64 x &&& BitVec.ofInt 64 16777215).toNat ≤ 16777215 := by
    rw [BitVec.toNat_and]
    exact Nat.le_trans Nat.and_le_right (by decide)
  generalize (BitVec.ofInt 64 x &&& BitVec.ofInt 64 16777215).toNat = m at h1
  have : wu (m : Int) = (m : Int) := by
    unfold wu IntKind.wrap
    simp [IntKind.bits, IntKind.signed]
    omega
  rw [this]; omega
theorem next_some {c : List UInt8} (hc : c.length ≤ 4096) {s : Int × Int} (h0 : 0 ≤ s.1) (n : Int) (hn : n ≤ 1000000000) : ∃ x s', spec_l01Next c s n = some (x, s') ∧ 0 ≤ s'.1 ∧ (1 ≤ n → 0 ≤ x ∧ x < n) := by
  unfold spec_l01Next
  by_cases h1 : n < 1
  · rw [dtt h1, if_pos rfl]
    exact ⟨_, _, rfl, h0, fun h => by omega⟩
  · rw [dff h1, if_neg (by decide)]
    have hr := andu_rng (shru (wu ((wu (s.2 * (6364136223846793005 : Int))) + (1442695040888963407 : Int))) (33 : Int))
    generalize andu (shru (wu ((wu (s.2 * (6364136223846793005 : Int))) + (1442695040888963407 : Int))) (33 : Int)) (16777215 : Int) = y at hr
    generalize wu ((wu (s.2 * (6364136223846793005 : Int))) + (1442695040888963407 : Int)) = z
    have mod : ∀ v : Int, 0 ≤ v → 0 ≤ v.tmod n ∧ v.tmod n < n := fun v hv => by
      rw [Int.tmod_eq_emod_of_nonneg hv]
      exact ⟨Int.emod_nonneg _ (by omega), Int.emod_lt_of_pos _ (by omega)⟩
    by_cases h2 : s.1 < (c.length : Int)
    · rw [dtt h2, if_pos rfl, if_pos ⟨h0, h2⟩, if_pos (by omega)]
      refine ⟨_, _, rfl, ?_, fun _ => mod _ ?_⟩
      · dsimp only; rw [w64_id (by omega) (by omega)]; omega
      · have hb : ((gl 0 c s.1).toNat : Int) < 256 := by
          have := (gl 0 c s.1).toNat_lt
          omega
        rw [w64_id (x := y) (by omega) (by omega), w64_id (by omega) (by omega)]
        omega
    · rw [dff h2, if_neg (by decide), if_pos (by omega)]
      refine ⟨_, _, rfl, h0, fun _ => mod _ ?_⟩
      rw [w64_id (by omega) (by omega)]; omega
theorem pick_some {c : List UInt8} (hc : c.length ≤ 4096) {s : Int × Int} (h0 : 0 ≤ s.1) (l : List Int) (h1 : 1 ≤ l.length) (h2 : l.length ≤ 1000) : ∃ x s', spec_l01Pick c s l = some (x, s') ∧ 0 ≤ s'.1 ∧ x ∈ l := by
  obtain ⟨x, s', e, hs, hx⟩ := next_some hc h0 (l.length : Int) (by omega)
  have hx := hx (by omega)
  unfold spec_l01Pick
  rw [e]
  simp only [Option.bind_some]
  rw [if_pos hx]
  refine ⟨_, _, rfl, hs, ?_⟩
  obtain ⟨k, rfl⟩ := Int.eq_ofNat_of_zero_le hx.1
  rw [gl_nat (by omega)]
  exact List.getElem_mem _
theorem from_some {c : List UInt8} (hc : c.length ≤ 4096) : ∃ s, spec_l01From c = some s ∧ s.1 = 0 := by
  unfold spec_l01From
  let H : Nat → Int := fun j => Nat.rec (wu ((12619 : Int) + (wu (c.length : Int)))) (fun j h => wu ((wu ((wu (h * (1099511628211 : Int))) + (wu ((gl 0 c (j : Int)).toNat : Int)))) + (79 : Int))) j
  have := iter_up (body := fun s : Int × Int => spec_l01From_l1 c s.1 s.2) (fun j => ((j : Int), H j)) c.length (s' := ((c.length : Int), H c.length)) (fun j hj => by
    show spec_l01From_l1 c (j : Int) (H j) = _
    unfold spec_l01From_l1
    rw [dtt (show (j : Int) < (c.length : Int) by omega), if_pos rfl, dtt (show (j : Int) < 4096 by omega)]
    simp only [Option.bind_some]
    rw [if_pos trivial, if_pos ⟨by omega, by omega⟩, w64s (by omega)]) (by
    show spec_l01From_l1 c (c.length : Int) _ = _
    unfold spec_l01From_l1
    rw [dff (by omega), if_neg (by decide)]
    simp)
  have h0 : (((0 : Nat) : Int), H 0) = (0, wu ((12619 : Int) + (wu (c.length : Int)))) := rfl
  rw [h0] at this
  rw [this]
  exact ⟨_, rfl, rfl⟩
theorem iter_ex {σ ρ : Type} {body : σ → Option (LR σ ρ)} (I : Nat → σ → Prop) (J : σ → Prop) (n : Nat) (h : ∀ j s, j < n → I j s → ∃ s', body s = some (.next s') ∧ I (j + 1) s') (hs : ∀ s, I n s → ∃ s', body s = some (.stop s') ∧ J s') : ∀ d j s, j + d = n → I j s → ∃ s', iter body s = some (.stop s') ∧ J s'
  | 0, j, s, hj, hI => by
    have : j = n := by omega
    subst this
    obtain ⟨s', e, hJ⟩ := hs s hI
    exact ⟨s', iter_stop e, hJ⟩
  | d + 1, j, s, hj, hI => by
    obtain ⟨s', e, hI'⟩ := h j s (by omega) hI
    rw [iter_next e]
    exact iter_ex I J n h hs d (j + 1) s' (by omega) hI'
theorem iter_rt {σ ρ : Type} {body : σ → Option (LR σ ρ)} (I : Nat → σ → Prop) (J : ρ → Prop) (n : Nat) (h : ∀ j s, j ≤ n → I j s → (∃ r, body s = some (.ret r) ∧ J r) ∨ (j < n ∧ ∃ s', body s = some (.next s') ∧ I (j + 1) s')) : ∀ d j s, j + d = n → I j s → ∃ r, iter body s = some (.ret r) ∧ J r
  | d, j, s, hj, hI => by
    rcases h j s (by omega) hI with ⟨r, e, hJ⟩ | ⟨hl, s', e, hI'⟩
    · exact ⟨r, iter_ret e, hJ⟩
    · match d, hj with
      | 0, hj => omega
      | d + 1, hj =>
        rw [iter_next e]
        exact iter_rt I J n h d (j + 1) s' (by omega) hI'
theorem draw_row {c : List UInt8} (hc : c.length ≤ 4096) {p : Int} (hp : pr p) {n : Nat} (hn : n ≤ 3) {s : Int × Int} (h0 : 0 ≤ s.1) : ∃ a b row, iter (fun s : Int × Int × Int × List Int => spec_l04Draw_l14 c p (n : Int) s.1 s.2.1 s.2.2.1 s.2.2.2) (0, s.1, s.2, []) = some (.stop ((n : Int), a, b, row)) ∧ 0 ≤ a ∧ row.length = n ∧ ∀ y ∈ row, 0 ≤ y ∧ y < p := by
  have l := pr_le hp
  obtain ⟨⟨j, a, b, row⟩, e, h1, h2, h3, h4⟩ := iter_ex (body := fun s : Int × Int × Int × List Int => spec_l04Draw_l14 c p (n : Int) s.1 s.2.1 s.2.2.1 s.2.2.2)
    (fun j s => s.1 = (j : Int) ∧ 0 ≤ s.2.1 ∧ s.2.2.2.length = j ∧ ∀ y ∈ s.2.2.2, 0 ≤ y ∧ y < p) (fun s => s.1 = (n : Int) ∧ 0 ≤ s.2.1 ∧ s.2.2.2.length = n ∧ ∀ y ∈ s.2.2.2, 0 ≤ y ∧ y < p) n
    (fun j ⟨k, a, b, row⟩ hj ⟨h1, h2, h3, h4⟩ => by
      dsimp only at h1 h2 h3 h4 ⊢
      subst h1
      obtain ⟨x, s', e, hs, hx⟩ := next_some hc (s := (a, b)) h2 p (by omega)
      unfold spec_l04Draw_l14
      rw [dtt (show (j : Int) < (n : Int) by omega), if_pos rfl, e]
      simp only [Option.bind_some]
      rw [if_pos (by simp; omega), w64s (by omega)]
      refine ⟨_, rfl, rfl, hs, by simp; omega, fun y hy => ?_⟩
      rcases List.mem_append.1 hy with hy | hy
      · exact h4 y hy
      · rw [List.mem_singleton.1 hy]; exact hx (by omega))
    (fun ⟨k, a, b, row⟩ ⟨h1, h2, h3, h4⟩ => by
      dsimp only at h1 h2 h3 h4 ⊢
      subst h1
      unfold spec_l04Draw_l14
      rw [dff (show ¬ (n : Int) < (n : Int) by omega), if_neg (by decide)]
      exact ⟨_, rfl, rfl, h2, h3, h4⟩) n 0 (0, s.1, s.2, []) (by omega) ⟨rfl, h0, rfl, fun y hy => by cases hy⟩
  dsimp only at h1 h2 h3 h4
  subst h1
  exact ⟨a, b, row, e, h2, h3, h4⟩
theorem draw_rows {c : List UInt8} (hc : c.length ≤ 4096) {p : Int} (hp : pr p) {n : Nat} (hn : n ≤ 3) {s : Int × Int} (h0 : 0 ≤ s.1) : ∃ a b rows, iter (fun s : Int × Int × Int × List Nat × List (List Int) => spec_l04Draw_l5 c p (n : Int) s.1 s.2.1 s.2.2.1 s.2.2.2.1 s.2.2.2.2) (0, s.1, s.2, [], []) = some (.stop ((n : Int), a, b, List.range n, rows)) ∧ 0 ≤ a ∧ rows.length = n ∧ ∀ x ∈ rows, x.length = n ∧ ∀ y ∈ x, 0 ≤ y ∧ y < p := by
  obtain ⟨⟨j, a, b, idx, rows⟩, e, h1, h2, h3, h4, h5⟩ := iter_ex (body := fun s : Int × Int × Int × List Nat × List (List Int) => spec_l04Draw_l5 c p (n : Int) s.1 s.2.1 s.2.2.1 s.2.2.2.1 s.2.2.2.2)
    (fun j s => s.1 = (j : Int) ∧ 0 ≤ s.2.1 ∧ s.2.2.2.1 = List.range j ∧ s.2.2.2.2.length = j ∧ ∀ x ∈ s.2.2.2.2, x.length = n ∧ ∀ y ∈ x, 0 ≤ y ∧ y < p) (fun s => s.1 = (n : Int) ∧ 0 ≤ s.2.1 ∧ s.2.2.2.1 = List.range n ∧ s.2.2.2.2.length = n ∧ ∀ x ∈ s.2.2.2.2, x.length = n ∧ ∀ y ∈ x, 0 ≤ y ∧ y < p) n
    (fun j ⟨k, a, b, idx, rows⟩ hj ⟨h1, h2, h3, h4, h5⟩ => by
      dsimp only at h1 h2 h3 h4 h5 ⊢
      subst h1 h3
      obtain ⟨a', b', row, e, ha, hr1, hr2⟩ := draw_row hc hp hn (s := (a, b)) h2
      unfold spec_l04Draw_l5
      dsimp only at e
      rw [dtt (show (j : Int) < (n : Int) by omega), if_pos rfl, e]
      simp only [Option.bind_some]
      rw [if_pos (by simp; omega), w64s (by omega), h4]
      refine ⟨_, rfl, rfl, ha, List.range_succ.symm, by simp; omega, fun y hy => ?_⟩
      rcases List.mem_append.1 hy with hy | hy
      · exact h5 y hy
      · rw [List.mem_singleton.1 hy]; exact ⟨hr1, hr2⟩)
    (fun ⟨k, a, b, idx, rows⟩ ⟨h1, h2, h3, h4, h5⟩ => by
      dsimp only at h1 h2 h3 h4 h5 ⊢
      subst h1
      unfold spec_l04Draw_l5
      rw [dff (show ¬ (n : Int) < (n : Int) by omega), if_neg (by decide)]
      exact ⟨_, rfl, rfl, h2, h3, h4, h5⟩) n 0 (0, s.1, s.2, [], []) (by omega) ⟨rfl, h0, rfl, rfl, fun y hy => by cases hy⟩
  dsimp only at h1 h2 h3 h4 h5
  subst h1 h3
  exact ⟨a, b, rows, e, h2, h4, h5⟩
theorem draw_some {c : List UInt8} (hc : c.length ≤ 4096) {p : Int} (hp : pr p) {n : Nat} (h1 : 1 ≤ n) (hn : n ≤ 3) {s : Int × Int} (h0 : 0 ≤ s.1) : ∃ L s', spec_l04Draw c s p (n : Int) = some (L, s') ∧ 0 ≤ s'.1 ∧ Sq p n L := by
  obtain ⟨⟨L, s'⟩, e, h2, h3⟩ := iter_rt (body := fun s : Int × Int × Int => spec_l04Draw_l1 c p (n : Int) s.1 s.2.1 s.2.2)
    (fun j s => s.1 = (j : Int) ∧ 0 ≤ s.2.1) (fun r => 0 ≤ r.2.1 ∧ Sq p n r.1) 5
    (fun j ⟨k, a, b⟩ hj ⟨g1, g2⟩ => by
      dsimp only at g1 g2 ⊢
      subst g1
      obtain ⟨a', b', rows, e, ha, hr1, hr2⟩ := draw_rows hc hp hn (s := (a, b)) g2
      have hS : Sq p n rows := ⟨hr1, h1, hn, hr2⟩
      unfold spec_l04Draw_l1
      dsimp only at e
      rw [e]
      simp only [Option.bind_some]
      have hg : gi (List.range n) rows = rows := by rw [← hr1]; exact gi_range rows
      obtain ⟨q, hq⟩ : ∃ q, spec_l04Inverse p rows = some q := ⟨_, inverse_sq hp hS⟩
      rw [hg, hq]
      simp only [Option.bind_some]
      rw [if_pos (List.nodup_range)]
      by_cases ht : q.2 = true
      · rw [if_pos ht]
        left
        exact ⟨_, rfl, ha, hS⟩
      · rw [if_neg ht]
        by_cases h4 : (4 : Int) < (j : Int)
        · left
          rw [dtt h4]
          exact ⟨_, rfl, ha, hS⟩
        · right
          rw [dff h4]
          refine ⟨by omega, _, rfl, ?_, ha⟩
          exact w64s (by omega)) 5 0 (0, s.1, s.2) (by omega) ⟨rfl, h0⟩
  unfold spec_l04Draw
  rw [e]
  exact ⟨L, s', rfl, h2, h3⟩
end Go.Proofs.YtB
