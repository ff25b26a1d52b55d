/- Plain laws: the reference's inverse of a square. -/
import Derived.Test.YtbhaeajdabgnhaaSqPu41
import Derived.Test.YtbhaeajdabgnhaaSqG1
set_option linter.unusedVariables false
set_option linter.unusedSimpArgs false
namespace Go.Proofs.YtB
open Go Go.RowKit Go.Proofs
theorem rop_zero {p : Int} {X Y : List Int} (h : ∀ t : Nat, 0 ≤ gl 0 X (t : Int) ∧ gl 0 X (t : Int) < p) : rop p 0 X Y = X := by
  apply List.ext_getElem
  · rw [rop_len]
  · intro t h1 h2
    have e := rop_get (p := p) (s := 0) (x := X) (y := Y) h2
    rw [gl_nat h1, gl_nat h2] at e
    have := h t
    rw [gl_nat h2] at this
    rw [e, Int.zero_mul, Int.sub_zero, Int.emod_eq_of_lt this.1 this.2]
theorem inv_s33 {M : Nat → List Int} {n m c : Nat} (hc : c < m) {L : List (List Int)} (hL : L.length = n) {I : List Nat} {rows : List (List Int)} (hR : Rep n I rows M) (hlen : ∀ k, k < n → (M k).length = m) (hn : n ≤ 1000) : ∀ (d k : Nat), k + d = n → iter (fun s => spec_l04Inverse_l33 L (c : Int) I rows s) (k : Int) = some (.stop (match fb M c k d with | none => (n : Int) | some b => (b : Int)))
  | 0, k, hk => by
    have : k = n := by omega
    subst this
    apply iter_stop
    unfold spec_l04Inverse_l33
    rw [hL, dff (by omega)]
    rfl
  | d + 1, k, hk => by
    have hb : spec_l04Inverse_l33 L (c : Int) I rows (k : Int) = if gl 0 (M k) (c : Int) ≠ 0 then some (.stop (k : Int)) else some (.next ((k + 1 : Nat) : Int)) := by
      unfold spec_l04Inverse_l33
      rw [hL, dtt (by omega), if_pos rfl, hR.len, if_pos ⟨by omega, by omega⟩, hR.at_ k (by omega), hlen k (by omega), if_pos ⟨by omega, by omega⟩, w64s (by omega)]
      by_cases h : gl 0 (M k) (c : Int) ≠ 0
      · rw [dff (by omega), if_pos h]; rfl
      · rw [dtt (by omega), if_neg h]; rfl
    unfold fb
    by_cases h : gl 0 (M k) (c : Int) ≠ 0
    · rw [iter_stop (s' := (k : Int)) (by rw [hb, if_pos h]), if_pos h]
    · rw [iter_next (s' := ((k + 1 : Nat) : Int)) (by rw [hb, if_neg h]), if_neg h]
      exact inv_s33 hc hL hR hlen hn d (k + 1) (by omega)
theorem inv_s53 {p : Int} (hp : pr p) {n : Nat} {M : Nat → List Int} (hM : Mok p n (2 * n) M) {L : List (List Int)} (hL : L.length = n) (hn : n ≤ 1000) {I : List Nat} {rows : List (List Int)} {b : Nat} {y : Int} (hb : b < n) (y0 : 0 ≤ y) (y1 : y < p) (h1 : rows.getD (gl 0 I (b : Int)) [] = M b) :
    iter (fun s : Int × List Int => spec_l04Inverse_l53 p L I rows (b : Int) y s.1 s.2) (0, []) = some (.stop (((2 * n : Nat) : Int), scl p y (M b))) := by
  have l := pr_le hp
  have hw : w64 (2 * (n : Int)) = ((2 * n : Nat) : Int) := by rw [w64_id (by omega) (by omega)]; omega
  have := iter_up (body := fun s : Int × List Int => spec_l04Inverse_l53 p L I rows (b : Int) y s.1 s.2) (fun t => ((t : Int), (List.range t).map fun l : Nat => (gl 0 (M b) (l : Int) * y) % p)) (2 * n) (s' := (((2 * n : Nat) : Int), scl p y (M b))) (fun t ht => by
    show spec_l04Inverse_l53 p L I rows (b : Int) y (t : Int) _ = _
    unfold spec_l04Inverse_l53
    have xr := hM.rng b hb t
    rw [hL, hw, h1, hM.len b hb, dtt (by omega), if_pos rfl, if_pos ⟨by omega, by omega⟩, if_pos (show p ≠ 0 by omega), mulmod hp xr.1 xr.2 y0 y1, if_pos (by simp; omega), w64s (by omega), List.range_succ, List.map_append]
    rfl) (by
    show spec_l04Inverse_l53 p L I rows (b : Int) y ((2 * n : Nat) : Int) _ = _
    unfold spec_l04Inverse_l53
    rw [hL, hw, dff (by omega), if_neg (by decide)]
    unfold scl
    rw [hM.len b hb])
  simpa using this
theorem inv_s81 {p : Int} (hp : pr p) {n : Nat} {M : Nat → List Int} (hM : Mok p n (2 * n) M) {L : List (List Int)} (hL : L.length = n) (hn : n ≤ 1000) {I : List Nat} {rows s30 : List (List Int)} {k c : Nat} (hk : k < n) (hc : c < n)
    (h1 : rows.getD (gl 0 I (k : Int)) [] = M k) (h2 : rows.getD s30.length [] = M c) :
    iter (fun s : Int × List Int => spec_l04Inverse_l81 p L (c : Int) s30 (k : Int) I rows s.1 s.2) (0, []) = some (.stop (((2 * n : Nat) : Int), rop p (gl 0 (M k) (c : Int)) (M k) (M c))) := by
  have l := pr_le hp
  have hw : w64 (2 * (n : Int)) = ((2 * n : Nat) : Int) := by rw [w64_id (by omega) (by omega)]; omega
  have hs := hM.rng k hk c
  have := iter_up (body := fun s : Int × List Int => spec_l04Inverse_l81 p L (c : Int) s30 (k : Int) I rows s.1 s.2) (fun t => ((t : Int), (List.range t).map fun l : Nat => (gl 0 (M k) (l : Int) - gl 0 (M k) (c : Int) * gl 0 (M c) (l : Int)) % p)) (2 * n) (s' := (((2 * n : Nat) : Int), rop p (gl 0 (M k) (c : Int)) (M k) (M c))) (fun t ht => by
    show spec_l04Inverse_l81 p L (c : Int) s30 (k : Int) I rows (t : Int) _ = _
    unfold spec_l04Inverse_l81
    have xr := hM.rng k hk t
    have yr := hM.rng c hc t
    rw [hL, hw, h1, h2, hM.len k hk, hM.len c hc, dtt (by omega), if_pos rfl, if_pos ⟨by omega, by omega⟩, if_pos ⟨by omega, by omega⟩, smod hp xr.1 xr.2 hs.1 hs.2 yr.1 yr.2]
    simp only [Option.bind_some]
    rw [if_pos (by simp; omega), w64s (by omega), List.range_succ, List.map_append]
    rfl) (by
    show spec_l04Inverse_l81 p L (c : Int) s30 (k : Int) I rows ((2 * n : Nat) : Int) _ = _
    unfold spec_l04Inverse_l81
    rw [hL, hw, dff (by omega), if_neg (by decide)]
    unfold rop
    rw [hM.len k hk])
  simpa using this
theorem getD_app {rows : List (List Int)} {S : List Int} {a : Nat} (ha : a < rows.length) : (rows ++ [S]).getD a [] = rows.getD a [] := by
  rw [List.getD_eq_getElem?_getD, List.getD_eq_getElem?_getD, List.getElem?_append_left ha]
theorem getD_new {rows : List (List Int)} {S : List Int} : (rows ++ [S]).getD rows.length [] = S := by
  rw [List.getD_eq_getElem?_getD, List.getElem?_append_right (Nat.le_refl _)]
  simp
theorem Rep.put_new {n : Nat} {I : List Nat} {rows : List (List Int)} {M : Nat → List Int} (hR : Rep n I rows M) {k : Nat} (hk : k < n) (S : List Int) : Rep n (I.set k rows.length) (rows ++ [S]) (updM M k S) := by
  have hkI : k < I.length := by rw [hR.len]; exact hk
  refine ⟨by rw [List.length_set]; exact hR.len, fun t ht => ?_, fun t ht => ?_⟩
  · rw [gl_set_nat hkI]
    have := hR.lt t ht
    split <;> simp <;> omega
  · rw [gl_set_nat hkI]
    unfold updM
    by_cases htk : t = k
    · subst htk
      rw [if_pos rfl, if_pos rfl, getD_new]
    · rw [if_neg htk, if_neg htk, getD_app (hR.lt t ht), hR.at_ t ht]
theorem inv_s67 {p : Int} (hp : pr p) {n : Nat} {M : Nat → List Int} (hM : Mok p n (2 * n) M) {L : List (List Int)} (hL : L.length = n) (hn : n ≤ 1000) {s30 : List (List Int)} {c : Nat} (hc : c < n) : ∀ (d k : Nat) (I : List Nat) (rows : List (List Int)), k + d = n → s30.length < rows.length → rows.getD s30.length [] = M c → Rep n I rows (elX p M k c) →
    ∃ I' rows', iter (fun s : Int × List Nat × List (List Int) => spec_l04Inverse_l67 p L (c : Int) s30 s.1 s.2.1 s.2.2) ((k : Int), I, rows) = some (.stop ((n : Int), I', rows')) ∧ Rep n I' rows' (elX p M n c)
  | 0, k, I, rows, hk, hl, hr, hR => by
    have : k = n := by omega
    subst this
    refine ⟨I, rows, iter_stop ?_, hR⟩
    show spec_l04Inverse_l67 p L (c : Int) s30 (k : Int) I rows = _
    unfold spec_l04Inverse_l67
    rw [hL, dff (by omega), if_neg (by decide)]
  | d + 1, k, I, rows, hk, hl, hr, hR => by
    have hkn : k < n := by omega
    have e1k : elX p M k c k = M k := by unfold elX; rw [if_neg (by omega)]
    have hrk := hR.at_ k hkn
    rw [e1k] at hrk
    have hcc : c < 2 * n := by omega
    by_cases hz : k = c ∨ gl 0 (M k) (c : Int) = 0
    · have hR' : Rep n I rows (elX p M (k + 1) c) := by
        have : elX p M (k + 1) c = elX p M k c := by
          funext t
          unfold elX
          by_cases h : t ≠ c ∧ t < k
          · rw [if_pos h, if_pos ⟨h.1, by omega⟩]
          · rw [if_neg h]
            by_cases h2 : t ≠ c ∧ t < k + 1
            · have : t = k := by omega
              subst this
              rw [if_pos h2]
              rcases hz with hz | hz
              · exact absurd hz h2.1
              · rw [hz, rop_zero (hM.rng t hkn)]
            · rw [if_neg h2]
        rw [this]; exact hR
      obtain ⟨I', rows', e1, e2⟩ := inv_s67 hp hM hL hn (s30 := s30) hc d (k + 1) I rows (by omega) hl hr hR'
      refine ⟨I', rows', ?_, e2⟩
      rw [iter_next (s' := (((k + 1 : Nat) : Int), I, rows)) ?_]
      · exact e1
      · show spec_l04Inverse_l67 p L (c : Int) s30 (k : Int) I rows = _
        unfold spec_l04Inverse_l67
        rw [hL, dtt (show (k : Int) < (n : Int) by omega), if_pos rfl, hR.len, if_pos ⟨by omega, by omega⟩, hrk, hM.len k hkn, if_pos ⟨by omega, by omega⟩, w64s (by omega)]
        by_cases hkc : k = c
        · rw [dtt (show (k : Int) = (c : Int) by omega)]; rfl
        · rw [dff (show ¬ (k : Int) = (c : Int) by omega), dtt (show gl 0 (M k) (c : Int) = 0 by rcases hz with hz | hz; exact absurd hz hkc; exact hz)]; rfl
    · have hkc : k ≠ c := fun h => hz (.inl h)
      have hs := hM.rng k hkn c
      have h81 := inv_s81 hp hM hL hn (I := I) (s30 := s30) hkn hc hrk hr
      have hR' : Rep n (I.set k rows.length) (rows ++ [rop p (gl 0 (M k) (c : Int)) (M k) (M c)]) (elX p M (k + 1) c) := by
        have := hR.put_new hkn (rop p (gl 0 (M k) (c : Int)) (M k) (M c))
        have e : updM (elX p M k c) k (rop p (gl 0 (M k) (c : Int)) (M k) (M c)) = elX p M (k + 1) c := by
          funext t
          unfold updM elX
          by_cases htk : t = k
          · subst htk; rw [if_pos rfl, if_pos ⟨hkc, by omega⟩]
          · rw [if_neg htk]
            by_cases h : t ≠ c ∧ t < k
            · rw [if_pos h, if_pos ⟨h.1, by omega⟩]
            · rw [if_neg h, if_neg (by omega)]
        rw [e] at this
        exact this
      obtain ⟨I', rows', e1, e2⟩ := inv_s67 hp hM hL hn (s30 := s30) hc d (k + 1) (I.set k rows.length) (rows ++ [rop p (gl 0 (M k) (c : Int)) (M k) (M c)]) (by omega) (by rw [List.length_append]; exact Nat.lt_of_lt_of_le hl (Nat.le_add_right _ _)) (by rw [getD_app hl]; exact hr) hR'
      refine ⟨I', rows', ?_, e2⟩
      rw [iter_next (s' := (((k + 1 : Nat) : Int), I.set k rows.length, rows ++ [rop p (gl 0 (M k) (c : Int)) (M k) (M c)])) ?_]
      · exact e1
      · show spec_l04Inverse_l67 p L (c : Int) s30 (k : Int) I rows = _
        unfold spec_l04Inverse_l67
        rw [hL, dtt (show (k : Int) < (n : Int) by omega), if_pos rfl, hR.len, if_pos ⟨by omega, by omega⟩, hrk, hM.len k hkn, if_pos ⟨by omega, by omega⟩, dff (show ¬ (k : Int) = (c : Int) by omega), dff (show ¬ gl 0 (M k) (c : Int) = 0 from fun h => hz (.inr h))]
        simp only [Bool.false_eq_true, if_false, Option.bind_some]
        rw [h81]
        simp only [Option.bind_some]
        rw [w64s (by omega), Int.toNat_natCast]
theorem inv_s27 {p : Int} (hp : pr p) {n : Nat} (hn : n ≤ 1000) {L : List (List Int)} (hL : L.length = n) : ∀ (d c : Nat) (I : List Nat) (rows : List (List Int)) (M : Nat → List Int), c + d = n → Rep n I rows M → Mok p n (2 * n) M →
    match gj p n d c M with
    | none => iter (fun s : Int × List Nat × List (List Int) => spec_l04Inverse_l27 p L s.1 s.2.1 s.2.2) ((c : Int), I, rows) = some (.ret ([], false))
    | some M' => ∃ I' rows', iter (fun s : Int × List Nat × List (List Int) => spec_l04Inverse_l27 p L s.1 s.2.1 s.2.2) ((c : Int), I, rows) = some (.stop ((n : Int), I', rows')) ∧ Rep n I' rows' M' ∧ Mok p n (2 * n) M'
  | 0, c, I, rows, M, hc, hR, hM => by
    have : c = n := by omega
    subst this
    refine ⟨I, rows, iter_stop ?_, hR, hM⟩
    show spec_l04Inverse_l27 p L (c : Int) I rows = _
    unfold spec_l04Inverse_l27
    rw [hL, dff (by omega), if_neg (by decide)]
  | d + 1, c, I, rows, M, hc, hR, hM => by
    have hcn : c < n := by omega
    have hcm : c < 2 * n := by omega
    have hx := inv_s33 hcm hL hR hM.len hn (n - c) c (by omega)
    unfold gj
    cases hfb : fb M c c (n - c) with
    | none =>
      rw [hfb] at hx
      apply iter_ret
      show spec_l04Inverse_l27 p L (c : Int) I rows = _
      unfold spec_l04Inverse_l27
      rw [hL, dtt (by omega), if_pos rfl, hx]
      simp only [Option.bind_some, decide_true, if_true]
    | some b =>
      rw [hfb] at hx
      obtain ⟨b0, b1, b2⟩ := fb_some hfb
      have hb : b < n := by omega
      have hM2 := hM.sw hcn hb
      have hMc : swM M c b c = M b := by unfold swM; rw [if_pos rfl]
      have hv := hM.rng b hb c
      have hpos : 0 < gl 0 (M b) (c : Int) := by omega
      have hinv := inv_range hp hpos hv.2
      have h53 := inv_s53 hp hM hL hn (I := I) (rows := rows) (y := inv p (gl 0 (M b) (c : Int))) hb (by omega) hinv.2.1 (hR.at_ b hb)
      have hM3 := hM2.upd hp hcn (inv p (gl 0 (M b) (c : Int)))
      have hR3 : Rep n ((I.set b (gl 0 I (c : Int))).set c rows.length) (rows ++ [scl p (inv p (gl 0 (M b) (c : Int))) (M b)]) (updM (swM M c b) c (scl p (inv p (gl 0 (M b) (c : Int))) (swM M c b c))) := by
        rw [hMc]
        have hbI : b < I.length := by rw [hR.len]; exact hb
        have hcI : c < (I.set b (gl 0 I (c : Int))).length := by rw [List.length_set, hR.len]; exact hcn
        refine ⟨by rw [List.length_set, List.length_set]; exact hR.len, fun t ht => ?_, fun t ht => ?_⟩
        · rw [gl_set_nat hcI, gl_set_nat hbI]
          have := hR.lt t ht
          have := hR.lt c hcn
          split
          · simp
          · split <;> simp <;> omega
        · rw [gl_set_nat hcI, gl_set_nat hbI]
          unfold updM swM
          by_cases h1 : t = c
          · rw [if_pos h1, if_pos h1, getD_new]
          · rw [if_neg h1, if_neg h1, if_neg h1]
            by_cases h2 : t = b
            · rw [if_pos h2, if_pos h2, getD_app (hR.lt c hcn), hR.at_ c hcn]
            · rw [if_neg h2, if_neg h2, getD_app (hR.lt t ht), hR.at_ t ht]
      have e0 : ∀ N : Nat → List Int, elX p N 0 c = N := fun N => by funext t; unfold elX; rw [if_neg (by omega)]
      have hlc : updM (swM M c b) c (scl p (inv p (gl 0 (M b) (c : Int))) (swM M c b c)) c = scl p (inv p (gl 0 (M b) (c : Int))) (M b) := by unfold updM; rw [if_pos rfl, hMc]
      obtain ⟨I2, rows2, e1, e2⟩ := inv_s67 hp hM3 hL hn (s30 := rows) hcn n 0 ((I.set b (gl 0 I (c : Int))).set c rows.length) (rows ++ [scl p (inv p (gl 0 (M b) (c : Int))) (M b)]) (by omega) (by rw [List.length_append]; exact Nat.lt_succ_self _) (by rw [getD_new, hlc]) (by rw [e0]; exact hR3)
      have hgj : gjM p (swM M c b) n c = elX p (updM (swM M c b) c (scl p (inv p (gl 0 (M b) (c : Int))) (swM M c b c))) n c := by unfold gjM; rw [hMc]
      rw [← hgj] at e2
      have ih := inv_s27 hp hn hL d (c + 1) I2 rows2 _ (by omega) e2 (by rw [hgj]; exact hM3.elX hp c)
      have hstep : iter (fun s : Int × List Nat × List (List Int) => spec_l04Inverse_l27 p L s.1 s.2.1 s.2.2) ((c : Int), I, rows) = iter (fun s : Int × List Nat × List (List Int) => spec_l04Inverse_l27 p L s.1 s.2.1 s.2.2) (((c + 1 : Nat) : Int), I2, rows2) := by
        apply iter_next
        show spec_l04Inverse_l27 p L (c : Int) I rows = _
        unfold spec_l04Inverse_l27
        rw [hL, dtt (by omega), if_pos rfl, hx]
        simp only [Option.bind_some]
        rw [dff (show ¬ (b : Int) = (n : Int) by omega)]
        simp only [Bool.false_eq_true, if_false]
        rw [hR.len, if_pos ⟨by omega, by omega⟩, if_pos ⟨by omega, by omega⟩, hR.at_ b hb, hM.len b hb, if_pos ⟨by omega, by omega⟩, inverse_s hp hpos hv.2]
        simp only [Option.bind_some]
        rw [h53]
        simp only [Option.bind_some]
        rw [show ((0 : Nat) : Int) = 0 from rfl] at e1
        rw [if_pos (by rw [List.length_set, hR.len]; exact ⟨by omega, by omega⟩), Int.toNat_natCast, Int.toNat_natCast, e1]
        simp only [Option.bind_some]
        rw [w64s (by omega)]
      dsimp only
      rw [hstep]
      exact ih
end Go.Proofs.YtB
