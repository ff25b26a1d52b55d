/- Plain laws: grids of numbers in the laws; ChangeScheme in both forms. -/
import Derived.Test.YtbhaeajdabgnhaaCsPu45
import Derived.Test.YtbhaeajdabgnhaaCsG2
import Derived.Test.YtbhaeajdabgnhaaCsG3
import Derived.Test.YtbhaeajdabgnhaaCsG4
set_option linter.unusedVariables false
set_option linter.unusedSimpArgs false
namespace Go.Proofs.YtB
open Go Go.RowKit Go.Proofs
def szG (L : List (List Int)) : Nat := L.length + L.flatten.length
theorem szS_eq {x : List Int} {left : Int} (h0 : 0 ≤ left) (h1 : left ≤ 1048576) (hx : x.length ≤ 9223372036854775807) : laws_szInt64S x left = some (if (x.length : Int) ≤ left then left - x.length else -1) := by
  unfold laws_szInt64S
  rw [w64_id (by omega) (by omega)]
  by_cases h : (x.length : Int) ≤ left
  · rw [dff (by omega), if_pos h]; rfl
  · rw [dtt (by omega), if_neg h]; rfl
theorem szG_from {L : List (List Int)} (hl : L.length ≤ 1048576) (hr : ∀ x ∈ L, x.length ≤ 9223372036854775807) : ∀ (d i : Nat) (s : Int), i + d = L.length → 0 ≤ s → s ≤ 1048576 →
    (iter (fun s : Int × Int => laws_szInt64SS_l2 L s.1 s.2) (s, (i : Int))).bind (fun o => match o with | .stop (s3, s4) => (some (s3)) | .ret r => some r | .next _ => none) = some (if ((L.drop i).flatten.length : Int) ≤ s then s - (L.drop i).flatten.length else -1)
  | 0, i, s, hd, h0, h1 => by
    have : i = L.length := by omega
    subst this
    rw [iter_stop (s' := (s, (L.length : Int))) (by
      show laws_szInt64SS_l2 L s (L.length : Int) = _
      unfold laws_szInt64SS_l2
      rw [dff (by omega), if_neg (by decide)])]
    simp [h0]
  | d + 1, i, s, hd, h0, h1 => by
    have hi : i < L.length := by omega
    have hx := hr _ (List.getElem_mem hi)
    have e : (L.drop i).flatten.length = L[i].length + (L.drop (i + 1)).flatten.length := by
      rw [List.drop_eq_getElem_cons hi, List.flatten_cons, List.length_append]
    have hb : laws_szInt64SS_l2 L s (i : Int) = if (L[i].length : Int) ≤ s then some (.next (s - L[i].length, ((i + 1 : Nat) : Int))) else some (.ret (-1)) := by
      unfold laws_szInt64SS_l2
      rw [dtt (by omega), if_pos rfl, if_pos ⟨by omega, by omega⟩, gl_nat hi, szS_eq h0 h1 hx, w64s (by omega)]
      by_cases h : (L[i].length : Int) ≤ s
      · rw [if_pos h, if_pos h]
        simp only [Option.bind_some]
        rw [dff (by omega)]; rfl
      · rw [if_neg h, if_neg h]; rfl
    rw [e]
    by_cases h : (L[i].length : Int) ≤ s
    · rw [iter_next (s' := (s - L[i].length, ((i + 1 : Nat) : Int))) (by rw [hb, if_pos h]), szG_from hl hr d (i + 1) _ (by omega) (by omega) (by omega)]
      by_cases h2 : ((L.drop (i + 1)).flatten.length : Int) ≤ s - L[i].length
      · rw [if_pos h2, if_pos (by omega)]; congr 1; omega
      · rw [if_neg h2, if_neg (by omega)]
    · rw [iter_ret (r := -1) (by rw [hb, if_neg h]), if_neg (by omega)]
      rfl
theorem szG_eq {L : List (List Int)} {left : Int} (h0 : 0 ≤ left) (h1 : left ≤ 1048576) (hl : L.length ≤ 9223372036854775807) (hr : ∀ x ∈ L, x.length ≤ 9223372036854775807) : laws_szInt64SS L left = some (if (szG L : Int) ≤ left then left - szG L else -1) := by
  unfold laws_szInt64SS szG
  rw [w64_id (by omega) (by omega)]
  by_cases h : (L.length : Int) ≤ left
  · rw [dff (by omega)]
    simp only [Bool.false_eq_true, if_false]
    have := szG_from (L := L) (by omega) hr L.length 0 (left - L.length) (by omega) (by omega) (by omega)
    rw [List.drop_zero, show ((0 : Nat) : Int) = 0 from rfl] at this
    refine Eq.trans this ?_
    by_cases h2 : (L.flatten.length : Int) ≤ left - L.length
    · rw [if_pos h2, if_pos (by omega)]; congr 1; omega
    · rw [if_neg h2, if_neg (by omega)]
  · rw [dtt (by omega), if_pos rfl, if_neg (by omega)]
theorem szG_row {L : List (List Int)} {x : List Int} (hx : x ∈ L) : x.length ≤ szG L := by
  unfold szG
  have := (List.sublist_flatten_of_mem hx).length_le
  omega
theorem szG_len (L : List (List Int)) : L.length ≤ szG L := by unfold szG; omega
/-- a grid copied -/
theorem toGrid_eq {L : List (List Int)} (h : szG L ≤ 1048576) : laws_toInt64SS L = some L := by
  have hl := szG_len L
  have hx : ∀ x ∈ L, x.length ≤ 1048576 := fun x hx => by have := szG_row hx; omega
  let I : Nat → List Nat := fun i => (List.range L.length).map fun t => if t < i then t + 1 else 0
  have hI : ∀ i, (I i).length = L.length := fun i => by simp [I]
  have hstep : ∀ i, i < L.length → (I i).set i (i + 1) = I (i + 1) := fun i hi => by
    apply List.ext_getElem
    · simp [I]
    · intro t h1 h2
      rw [List.getElem_set]
      simp only [I, List.getElem_map, List.getElem_range]
      by_cases ht : i = t
      · subst ht; simp
      · rw [if_neg ht]
        by_cases h3 : t < i
        · rw [if_pos h3, if_pos (by omega)]
        · rw [if_neg h3, if_neg (by omega)]
  have := iter_up (body := fun s : Int × List Nat × List (List Int) => laws_toInt64SS_l2 L s.1 s.2.1 s.2.2) (fun i => ((i : Int), I i, [] :: L.take i)) L.length (s' := ((L.length : Int), I L.length, [] :: L)) (fun i hi => by
    show laws_toInt64SS_l2 L (i : Int) (I i) ([] :: L.take i) = _
    unfold laws_toInt64SS_l2
    rw [dtt (by omega), if_pos rfl, if_pos ⟨by omega, by omega⟩, gl_nat hi, toInts_eq (hx _ (List.getElem_mem hi))]
    simp only [Option.bind_some]
    rw [hI, if_pos ⟨by omega, by omega⟩, w64s (by omega), Int.toNat_natCast]
    have e : ([] :: L.take i).length = i + 1 := by simp; omega
    rw [e, hstep i hi, ← List.take_append_getElem hi, List.cons_append]) (by
    show laws_toInt64SS_l2 L (L.length : Int) (I L.length) ([] :: L.take L.length) = _
    unfold laws_toInt64SS_l2
    rw [dff (by omega), if_neg (by decide), List.take_length])
  have h0 : (((0 : Nat) : Int), I 0, [] :: L.take 0) = (0, List.replicate L.length 0, [[]]) := by
    have : I 0 = List.replicate L.length 0 := by
      apply List.ext_getElem
      · simp [I]
      · intro t h1 h2; simp [I]
    rw [this]; simp
  rw [h0] at this
  unfold laws_toInt64SS
  rw [if_pos ⟨by omega, by omega⟩, Int.toNat_natCast, this]
  simp only [Option.bind_some]
  have hIL : I L.length = (List.range L.length).map (· + 1) := by
    simp only [I]
    exact List.map_congr_left fun t ht => by rw [if_pos (List.mem_range.1 ht)]
  have hnd : (I L.length).Nodup := by
    rw [hIL]
    exact List.Pairwise.map _ (fun a b (h : a ≠ b) h2 => h (by omega)) List.nodup_range
  rw [if_pos hnd]
  congr 1
  rw [hIL]
  unfold gi
  rw [List.map_map]
  have := gi_range L
  unfold gi at this
  conv => rhs; rw [← this]
  exact List.map_congr_left fun t ht => by simp
theorem eqGridG {L : List (List Int)} (h : szG L ≤ 1048576) : laws_eqInt64SS L L = some true := by
  have hl := szG_len L
  unfold laws_eqInt64SS
  simp only [ne_eq, not_true_eq_false, decide_false, Bool.false_eq_true, if_false]
  have := iter_up (body := fun s : Int => laws_eqInt64SS_l2 L L s) (fun j => (j : Int)) L.length (s' := (L.length : Int)) (fun j hj => by
    show laws_eqInt64SS_l2 L L (j : Int) = _
    unfold laws_eqInt64SS_l2
    have h3 := szG_row (List.getElem_mem hj)
    rw [dtt (by omega), if_pos rfl, if_pos ⟨by omega, by omega⟩, if_pos ⟨by omega, by omega⟩, gl_nat hj, eqInts_eq (by omega)]
    simp only [Option.bind_some, decide_true, Bool.not_true, Bool.false_eq_true, if_false]
    rw [w64s (by omega)]) (by
    show laws_eqInt64SS_l2 L L (L.length : Int) = _
    unfold laws_eqInt64SS_l2
    rw [dff (by omega), if_neg (by decide)])
  rw [show ((0 : Nat) : Int) = 0 from rfl] at this
  rw [this]
  rfl
theorem mark_key {L : List (List Int)} (h : szG L ≤ 1048576) : ∀ (d i : Nat) (k : Int) (rows : List (List Int)), i + d = L.length → rows.length = L.length → (∀ j, i ≤ j → (hj : j < L.length) → rows.getD j [] = L[j]) → 0 ≤ k → k + (L.drop i).flatten.length ≤ 2000000000 →
    ∃ rows', iter (fun s : Int × Int × List (List Int) => laws_markInt64SS_l1 L s.1 s.2.1 s.2.2) (k, (i : Int), rows) = some (.stop (k + (L.drop i).flatten.length, (L.length : Int), rows'))
  | 0, i, k, rows, hd, hr, hx, h0, h1 => by
    have : i = L.length := by omega
    subst this
    refine ⟨rows, iter_stop ?_⟩
    show laws_markInt64SS_l1 L k (L.length : Int) rows = _
    unfold laws_markInt64SS_l1
    rw [List.length_range, dff (by omega), if_neg (by decide)]
    simp
  | d + 1, i, k, rows, hd, hr, hx, h0, h1 => by
    have hl := szG_len L
    have hi : i < L.length := by omega
    have hxi := hx i (Nat.le_refl _) hi
    have hrl := szG_row (List.getElem_mem hi)
    have e : (L.drop i).flatten.length = L[i].length + (L.drop (i + 1)).flatten.length := by
      rw [List.drop_eq_getElem_cons hi, List.flatten_cons, List.length_append]
    have hm := markInts_eq (L := L[i]) (k := k) (by omega) h0 (by omega)
    obtain ⟨rows', e1⟩ := mark_key h d (i + 1) (k + L[i].length) (rows.set i (marksI k L[i].length)) (by omega) (by rw [List.length_set]; exact hr) (fun j h2 h3 => by
      rw [getD_set (by omega), if_neg (by omega)]
      exact hx j (by omega) h3) (by omega) (by omega)
    refine ⟨rows', ?_⟩
    rw [iter_next (s' := (k + L[i].length, ((i + 1 : Nat) : Int), rows.set i (marksI k L[i].length)))]
    · rw [e1, e, Int.natCast_add, ← Int.add_assoc]
    · show laws_markInt64SS_l1 L k (i : Int) rows = _
      unfold laws_markInt64SS_l1
      rw [List.length_range, dtt (by omega), if_pos rfl, if_pos ⟨by omega, by omega⟩, gl_range hi, hxi, hm]
      simp only [Option.bind_some]
      rw [w64s (by omega)]
theorem markG_eq {L : List (List Int)} {k : Int} (h : szG L ≤ 1048576) (h0 : 0 ≤ k) (h1 : k ≤ 1000000000) : ∃ L', laws_markInt64SS L k = some (k + L.flatten.length, L') := by
  have hf : L.flatten.length ≤ szG L := by unfold szG; omega
  obtain ⟨rows', e1⟩ := mark_key h L.length 0 k L (by omega) rfl (fun j _ hj => getD_at hj) h0 (by rw [List.drop_zero]; omega)
  refine ⟨rows', ?_⟩
  unfold laws_markInt64SS
  rw [show ((0 : Nat) : Int) = 0 from rfl] at e1
  rw [e1]
  rfl
def zS : Sch := ⟨0, 0, 0, 0, []⟩
def cnd (a : Sch) (L : List (List Int)) (z : Int) : Bool := sqB a.p L && decide ((L.length : Int) = z)
theorem l4_at (a : Sch) (L1 L2 L3 : List (List Int)) (s : Bool) {i : Nat} (hi : i < 3) {L : List (List Int)} {z : Int} (hL : gl [] ([L1, L2, L3] : List (List (List Int))) (i : Int) = L) (hz : gl 0 [a.n, a.m, a.k] (i : Int) = z) (h1 : szG L ≤ 1048576) :
    impl_ChangeScheme_l4 a L1 L2 L3 s (i : Int) = if cnd a L z then (if s = true then (impl_isInvertible a.p L).bind fun x => some (.next (x, ((i + 1 : Nat) : Int))) else some (.next (false, ((i + 1 : Nat) : Int)))) else some (.ret (zS, 2)) := by
  unfold impl_ChangeScheme_l4 cnd
  have hl := szG_len L
  have e3 : ([L1, L2, L3] : List (List (List Int))).length = 3 := rfl
  have e4 : [a.n, a.m, a.k].length = 3 := rfl
  rw [e3, e4, dtt (by omega), if_pos rfl, if_pos ⟨by omega, by omega⟩, hL, hz, square_i a.p L (by omega) (fun x hx => by have := szG_row hx; omega), w64s (by omega)]
  simp only [Option.bind_some]
  cases sqB a.p L
  · rfl
  · by_cases h : (L.length : Int) = z
    · rw [dtt h, dff (show ¬ (L.length : Int) ≠ z from fun hh => hh h)]
      simp only [Bool.not_true, Bool.false_eq_true, if_false, Bool.and_true, if_true]
      rw [if_pos (show 0 ≤ (i : Int) ∧ (i : Int) < ((3 : Nat) : Int) by omega)]
      simp only [Option.bind_some, Bool.false_eq_true, if_false]
      cases s
      · rfl
      · simp only [if_true]
        cases impl_isInvertible a.p L <;> rfl
    · rw [dff h, dtt (show (L.length : Int) ≠ z from h)]
      simp only [Bool.not_true, Bool.false_eq_true, if_false, Bool.and_false]
      rw [if_pos (show 0 ≤ (i : Int) ∧ (i : Int) < ((3 : Nat) : Int) by omega)]
      rfl
theorem vg3 (x y z : Int) : vg 0 (#v[x, y, z] : Vec3) 0 = x ∧ vg 0 (#v[x, y, z] : Vec3) 1 = y ∧ vg 0 (#v[x, y, z] : Vec3) 2 = z := ⟨rfl, rfl, rfl⟩
theorem change_eq (a : Sch) (L1 L2 L3 : List (List Int)) (ha : a.ps.length ≤ 2097152) (h1 : szG L1 ≤ 1048576) (h2 : szG L2 ≤ 1048576) (h3 : szG L3 ≤ 1048576) : ∃ g e, spec_ChangeScheme a L1 L2 L3 = some (g, e) ∧ impl_ChangeScheme a L1 L2 L3 = some (g, e) ∧ g.ps.length ≤ 60 := by
  obtain ⟨e1, e2⟩ := scheme_eq3 a (by omega)
  have b1 := square_s a.p L1 (by have := szG_len L1; omega) (fun x hx => by have := szG_row hx; omega)
  have b2 := square_s a.p L2 (by have := szG_len L2; omega) (fun x hx => by have := szG_row hx; omega)
  have b3 := square_s a.p L3 (by have := szG_len L3; omega) (fun x hx => by have := szG_row hx; omega)
  have l0 := fun s => l4_at a L1 L2 L3 s (i := 0) (by omega) (L := L1) (z := a.n) rfl rfl h1
  have l1 := fun s => l4_at a L1 L2 L3 s (i := 1) (by omega) (L := L2) (z := a.m) rfl rfl h2
  have l2 := fun s => l4_at a L1 L2 L3 s (i := 2) (by omega) (L := L3) (z := a.k) rfl rfl h3
  have l3 : ∀ s, impl_ChangeScheme_l4 a L1 L2 L3 s 3 = some (.stop (s, 3)) := fun s => by
    unfold impl_ChangeScheme_l4
    have e3 : ([L1, L2, L3] : List (List (List Int))).length = 3 := rfl
    rw [e3, dff (by omega), if_neg (by decide)]
  have cq : ∀ (L : List (List Int)) (z : Int), (if (!sqB a.p L) = true then some true else some (decide ((L.length : Int) ≠ z))) = some (!(cnd a L z)) := fun L z => by
    unfold cnd
    cases sqB a.p L
    · rfl
    · simp [decide_not]
  unfold spec_ChangeScheme impl_ChangeScheme
  rw [e1, e2]
  simp only [Option.bind_some]
  cases hs : schemeB a with
  | false => exact ⟨zS, 1, rfl, rfl, by simp [zS]⟩
  | true =>
    have hS := schemeB_is hs
    simp only [Bool.not_true, Bool.false_eq_true, if_false]
    rw [b1, b2, b3]
    simp only [Option.bind_some, (vg3 _ _ _).1, (vg3 _ _ _).2.1, (vg3 _ _ _).2.2]
    rw [cq, cq, cq]
    simp only [Option.bind_some]
    have z0 : ((0 : Nat) : Int) = 0 := rfl
    have z1 : ((0 + 1 : Nat) : Int) = 1 := rfl
    have z2 : ((1 + 1 : Nat) : Int) = 2 := rfl
    have z3 : ((2 + 1 : Nat) : Int) = 3 := rfl
    have z1' : ((1 : Nat) : Int) = 1 := rfl
    have z2' : ((2 : Nat) : Int) = 2 := rfl
    cases c1 : cnd a L1 a.n with
    | false =>
      have := l0 true
      rw [c1] at this
      refine ⟨zS, 2, rfl, ?_, by simp [zS]⟩
      rw [iter_ret (body := fun s : Bool × Int => impl_ChangeScheme_l4 a L1 L2 L3 s.1 s.2) (s := (true, 0)) (r := (zS, 2)) this]
      rfl
    | true =>
      have q1 := c1
      unfold cnd at q1
      simp only [Bool.and_eq_true, decide_eq_true_eq] at q1
      obtain ⟨hp, s1⟩ := sqB_sq q1.1
      have v1 := invertible_i hp s1
      have t1 := l0 true
      rw [c1, v1] at t1
      simp only [if_true, Option.bind_some, z0, z1] at t1
      generalize hb1 : (gj a.p L1.length L1.length 0 (augM L1.length L1)).isSome = u1 at t1 v1
      rw [iter_next (body := fun s : Bool × Int => impl_ChangeScheme_l4 a L1 L2 L3 s.1 s.2) (s := (true, 0)) (s' := (u1, 1)) t1]
      simp only [Bool.not_true, Bool.false_eq_true, if_false]
      cases c2 : cnd a L2 a.m with
      | false =>
        have := l1 u1
        rw [c2] at this
        refine ⟨zS, 2, rfl, ?_, by simp [zS]⟩
        rw [iter_ret (body := fun s : Bool × Int => impl_ChangeScheme_l4 a L1 L2 L3 s.1 s.2) (s := (u1, 1)) (r := (zS, 2)) this]
        rfl
      | true =>
        have q2 := c2
        unfold cnd at q2
        simp only [Bool.and_eq_true, decide_eq_true_eq] at q2
        obtain ⟨_, s2⟩ := sqB_sq q2.1
        have v2 := invertible_i hp s2
        have t2 := l1 u1
        rw [c2, v2] at t2
        generalize hb2 : (gj a.p L2.length L2.length 0 (augM L2.length L2)).isSome = u2 at t2 v2
        have t2' : impl_ChangeScheme_l4 a L1 L2 L3 u1 1 = some (.next (u1 && u2, 2)) := by
          rw [z1'] at t2
          rw [t2]
          cases u1 <;> rfl
        rw [iter_next (body := fun s : Bool × Int => impl_ChangeScheme_l4 a L1 L2 L3 s.1 s.2) (s := (u1, 1)) (s' := (u1 && u2, 2)) t2']
        simp only [Bool.not_true, Bool.false_eq_true, if_false]
        cases c3 : cnd a L3 a.k with
        | false =>
          have := l2 (u1 && u2)
          rw [c3] at this
          refine ⟨zS, 2, rfl, ?_, by simp [zS]⟩
          rw [iter_ret (body := fun s : Bool × Int => impl_ChangeScheme_l4 a L1 L2 L3 s.1 s.2) (s := (u1 && u2, 2)) (r := (zS, 2)) this]
          rfl
        | true =>
          have q3 := c3
          unfold cnd at q3
          simp only [Bool.and_eq_true, decide_eq_true_eq] at q3
          obtain ⟨_, s3⟩ := sqB_sq q3.1
          have v3 := invertible_i hp s3
          have t3 := l2 (u1 && u2)
          rw [c3, v3] at t3
          generalize hb3 : (gj a.p L3.length L3.length 0 (augM L3.length L3)).isSome = u3 at t3 v3
          have t3' : impl_ChangeScheme_l4 a L1 L2 L3 (u1 && u2) 2 = some (.next (u1 && u2 && u3, 3)) := by
            rw [z2'] at t3
            rw [t3]
            cases u1 <;> cases u2 <;> rfl
          rw [iter_next (body := fun s : Bool × Int => impl_ChangeScheme_l4 a L1 L2 L3 s.1 s.2) (s := (u1 && u2, 2)) (s' := (u1 && u2 && u3, 3)) t3', iter_stop (body := fun s : Bool × Int => impl_ChangeScheme_l4 a L1 L2 L3 s.1 s.2) (s := (u1 && u2 && u3, 3)) (l3 _)]
          simp only [Bool.not_true, Bool.false_eq_true, if_false, Option.bind_some]
          rw [inverse_sq hp s1, inverse_sq hp s2, inverse_sq hp s3]
          simp only [Option.bind_some]
          cases g1 : gj a.p L1.length L1.length 0 (augM L1.length L1) with
          | none =>
            rw [g1] at hb1
            subst hb1
            exact ⟨zS, 5, rfl, rfl, by simp [zS]⟩
          | some M1 =>
            rw [g1] at hb1
            subst hb1
            cases g2 : gj a.p L2.length L2.length 0 (augM L2.length L2) with
            | none =>
              rw [g2] at hb2
              subst hb2
              exact ⟨zS, 5, rfl, rfl, by simp [zS]⟩
            | some M2 =>
              rw [g2] at hb2
              subst hb2
              cases g3 : gj a.p L3.length L3.length 0 (augM L3.length L3) with
              | none =>
                rw [g3] at hb3
                subst hb3
                exact ⟨zS, 5, rfl, rfl, by simp [zS]⟩
              | some M3 =>
                rw [g3] at hb3
                subst hb3
                obtain ⟨r1, r2⟩ := changed_both hS q1.2.symm q2.2.symm q3.2.symm s1 s2 s3 g1 g2 g3
                have hpl : (a.ps.map (chP a.p L1.length L2.length L3.length (ge L1) (ge L2) (ge L3) (ge (outM L1.length M1)) (ge (outM L2.length M2)) (ge (outM L3.length M3)))).length ≤ 60 := by
                  have := hS.l
                  rw [List.length_map]; omega
                generalize a.ps.map (chP a.p L1.length L2.length L3.length (ge L1) (ge L2) (ge L3) (ge (outM L1.length M1)) (ge (outM L2.length M2)) (ge (outM L3.length M3))) = ps at r1 r2 hpl
                refine ⟨⟨a.p, a.n, a.m, a.k, ps⟩, 0, ?_, ?_, hpl⟩
                · simp only [Bool.not_true, Bool.false_eq_true, if_false]
                  rw [r2]
                  rfl
                · simp only [Option.isSome_some, Bool.and_self, Bool.not_true, Bool.false_eq_true, if_false]
                  rw [r1]
                  rfl
end Go.Proofs.YtB
