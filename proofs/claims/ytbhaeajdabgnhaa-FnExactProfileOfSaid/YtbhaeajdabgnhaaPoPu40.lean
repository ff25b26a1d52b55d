/- Plain laws: rows of ranks in order, as both forms sort them. -/
import Derived.Test.YtbhaeajdabgnhaaPoPu31
import Derived.Test.YtbhaeajdabgnhaaPoPu23
import Derived.Test.YtbhaeajdabgnhaaPoG3
import Derived.Test.YtbhaeajdabgnhaaPoG2
set_option linter.unusedVariables false
set_option linter.unusedSimpArgs false
namespace Go.Proofs.YtB
open Go Go.RowKit Go.Proofs
def cz (L : List Nat) : List Int := L.map fun n : Nat => (n : Int)
theorem cz_len (L : List Nat) : (cz L).length = L.length := by simp [cz]
theorem cz_get {L : List Nat} {j : Nat} (h : j < L.length) : gl 0 (cz L) (j : Int) = (L[j] : Int) := by
  rw [gl_nat (by rw [cz_len]; exact h)]
  simp [cz]
theorem cmp_int (x y : Nat) : cmp_Compare_134 (x : Int) (y : Int) = some (if x < y then -1 else if y < x then 1 else 0) := by
  unfold cmp_Compare_134 cmp_isNaN_175
  simp only [Option.bind_some, ne_eq, not_true_eq_false, decide_false, Bool.false_eq_true, if_false]
  by_cases h1 : x < y
  · rw [dtt (by omega), if_pos rfl, if_pos h1]
  · rw [dff (by omega), if_neg (by decide), if_neg h1]
    by_cases h2 : y < x
    · rw [dtt (by omega), if_pos rfl, if_pos h2]
    · rw [dff (by omega), if_neg (by decide), if_neg h2]
theorem cmp_fromI {L M : List Nat} (hLM : L.length = M.length) (hl : L.length ≤ 1000) : ∀ (d j : Nat), j + d = L.length →
    (iter (fun s => slices_Compare_87_l1 (cz L) (cz M) s) (j : Int)).bind (fun o => match o with | .stop s2 => (if (decide (((cz L).length : Int) < ((cz M).length : Int))) = true then (some ((-1))) else (some (0))) | .ret r => some r | .next _ => none) = some (cv (L.drop j) (M.drop j))
  | 0, j, hj => by
    have : j = L.length := by omega
    subst this
    rw [iter_stop (s' := (L.length : Int)) (by
      unfold slices_Compare_87_l1
      rw [cz_len, dff (by omega), if_neg (by decide)])]
    simp only [Option.bind_some]
    rw [cz_len, cz_len, dff (by omega), if_neg (by decide), List.drop_length, hLM, List.drop_length, cv_self]
  | d + 1, j, hj => by
    have hjl : j < L.length := by omega
    have hjm : j < M.length := by omega
    have hb : slices_Compare_87_l1 (cz L) (cz M) (j : Int) = if (L[j] < M[j]) then some (.ret (-1)) else if M[j] < L[j] then some (.ret 1) else some (.next ((j + 1 : Nat) : Int)) := by
      unfold slices_Compare_87_l1
      rw [cz_len, cz_len, dtt (by omega), if_pos rfl, if_pos ⟨by omega, by omega⟩, dff (by omega), if_neg (by decide), if_pos ⟨by omega, by omega⟩, cz_get hjl, cz_get hjm, cmp_int, w64s (by omega)]
      simp only [Option.bind_some]
      by_cases h1 : L[j] < M[j]
      · simp [h1]
      · by_cases h2 : M[j] < L[j]
        · simp [h1, h2]
        · simp [h1, h2]
    rw [List.drop_eq_getElem_cons hjl, List.drop_eq_getElem_cons hjm, cv_cons]
    by_cases h1 : L[j] < M[j]
    · rw [iter_ret (r := -1) (by rw [hb, if_pos h1]), if_pos h1]; rfl
    · by_cases h2 : M[j] < L[j]
      · rw [iter_ret (r := 1) (by rw [hb, if_neg h1, if_pos h2]), if_neg h1, if_pos h2]; rfl
      · rw [iter_next (s' := ((j + 1 : Nat) : Int)) (by rw [hb, if_neg h1, if_neg h2]), if_neg h1, if_neg h2]
        exact cmp_fromI hLM hl d (j + 1) (by omega)
theorem cmp_cz {L M : List Nat} (hLM : L.length = M.length) (hl : L.length ≤ 1000) : slices_Compare_87 (cz L) (cz M) = some (cv L M) := by
  have := cmp_fromI hLM hl L.length 0 (by omega)
  rw [List.drop_zero, List.drop_zero] at this
  exact this
theorem less_cz1 {L M : List Nat} (hL : L.length = 3) (hM : M.length = 3) : ∀ (d j : Nat), j + d = 3 →
    iter (fun s => spec_l04Less_l1 (cz L) (cz M) s) (j : Int) = some (if L.drop j = M.drop j then .stop 3 else .ret (lx (L.drop j) (M.drop j)))
  | 0, j, hj => by
    have : j = 3 := by omega
    subst this
    rw [iter_stop (s' := 3) (by unfold spec_l04Less_l1; rfl), List.drop_of_length_le (by omega), List.drop_of_length_le (by omega), if_pos rfl]
  | d + 1, j, hj => by
    have hjl : j < L.length := by omega
    have hjm : j < M.length := by omega
    have hb : spec_l04Less_l1 (cz L) (cz M) (j : Int) = if L[j] ≠ M[j] then some (.ret (decide (L[j] < M[j]))) else some (.next ((j + 1 : Nat) : Int)) := by
      unfold spec_l04Less_l1
      rw [cz_len, cz_len, dtt (by omega), if_pos rfl, if_pos ⟨by omega, by omega⟩, if_pos ⟨by omega, by omega⟩, cz_get hjl, cz_get hjm, w64s (by omega)]
      by_cases h : L[j] = M[j]
      · simp [h]
      · have h2 : ¬ ((L[j] : Int) = (M[j] : Int)) := by omega
        simp only [ne_eq, h, h2, not_false_eq_true, decide_true, if_true, Int.ofNat_lt]
    rw [List.drop_eq_getElem_cons hjl, List.drop_eq_getElem_cons hjm]
    by_cases h : L[j] = M[j]
    · rw [iter_next (s' := ((j + 1 : Nat) : Int)) (by rw [hb, if_neg (by simp [h])]), less_cz1 hL hM d (j + 1) (by omega)]
      simp only [List.cons.injEq, h, true_and, lx, Nat.lt_irrefl, decide_false, decide_true, Bool.false_or, Bool.true_and]
    · rw [iter_ret (r := decide (L[j] < M[j])) (by rw [hb, if_pos h])]
      simp only [List.cons.injEq, h, false_and, if_false, lx, decide_false, Bool.false_and, Bool.or_false]
theorem less_cz {L M : List Nat} (hL : L.length = 3) (hM : M.length = 3) : spec_l04Less (cz L) (cz M) = some (lx L M) := by
  unfold spec_l04Less
  have := less_cz1 hL hM 3 0 (by omega)
  rw [List.drop_zero, List.drop_zero, show ((0 : Nat) : Int) = 0 from rfl] at this
  rw [this]
  by_cases h : L = M
  · rw [if_pos h]; subst h; simp [lx_irrefl]
  · rw [if_neg h]; rfl
/-- rows of three numbers -/
def R3 (x : List Int) : Prop := ∃ L : List Nat, L.length = 3 ∧ x = cz L
def k3 (x : List Int) : List Nat := x.map Int.toNat
theorem k3_cz (L : List Nat) : k3 (cz L) = L := by
  unfold k3 cz
  rw [List.map_map]
  conv => rhs; rw [← List.map_id L]
  exact List.map_congr_left fun a _ => by simp
theorem R3.eq {x : List Int} (h : R3 x) : (k3 x).length = 3 ∧ x = cz (k3 x) := by
  obtain ⟨L, h1, rfl⟩ := h
  rw [k3_cz]
  exact ⟨h1, rfl⟩
def ltR (x y : List Int) : Bool := lx (k3 x) (k3 y)
theorem cmp_R3 {x y : List Int} (hx : R3 x) (hy : R3 y) : slices_Compare_87 x y = some (cv (k3 x) (k3 y)) := by
  obtain ⟨h1, h2⟩ := hx.eq
  obtain ⟨h3, h4⟩ := hy.eq
  have := cmp_cz (L := k3 x) (M := k3 y) (by omega) (by omega)
  rwa [← h2, ← h4] at this
theorem less_R3 {x y : List Int} (hx : R3 x) (hy : R3 y) : spec_l04Less x y = some (ltR x y) := by
  obtain ⟨h1, h2⟩ := hx.eq
  obtain ⟨h3, h4⟩ := hy.eq
  have := less_cz h1 h3
  rwa [← h2, ← h4] at this
theorem lt_R3 {x y : List Int} (hx : R3 x) (hy : R3 y) : ltOf (cfOf slices_Compare_87) x y = ltR x y := by
  unfold ltOf cfOf
  rw [cmp_R3 hx hy]
  exact cv_lt _ _
theorem cmpR_rows {rows : List (List Int)} (h : ∀ x ∈ rows, R3 x) : CmpR slices_Compare_87 rows := by
  have hl : ∀ x ∈ rows, (k3 x).length = 3 := fun x hx => (h x hx).eq.1
  refine ⟨fun x hx y hy => ⟨_, cmp_R3 (h x hx) (h y hy)⟩, fun x hx => ?_, fun x hx y hy z hz => ?_, fun x hx y hy z hz => ?_, fun x hx y hy => ?_⟩
  · rw [lt_R3 (h x hx) (h x hx)]; exact lx_irrefl _
  · rw [lt_R3 (h x hx) (h y hy), lt_R3 (h y hy) (h z hz), lt_R3 (h x hx) (h z hz)]; exact lx_trans
  · rw [lt_R3 (h x hx) (h y hy), lt_R3 (h y hy) (h z hz), lt_R3 (h x hx) (h z hz)]; exact lx_ntrans (by rw [hl x hx, hl y hy]) (by rw [hl y hy, hl z hz])
  · rw [lt_R3 (h x hx) (h y hy), lt_R3 (h y hy) (h x hx)]
    intro h1 h2
    have := lx_tot (by rw [hl x hx, hl y hy]) h1 h2
    rw [(h x hx).eq.2, (h y hy).eq.2, this]

def rowA (rows : List (List Int)) (r : Nat) : List Int := rows.getD r []
structure PInv (rows : List (List Int)) (j : Nat) (idx : List Nat) : Prop where
  perm : idx.Perm (List.range j)
  srt : idx.Pairwise fun x y => ltR (rowA rows y) (rowA rows x) = false
theorem rowA_R3 {rows : List (List Int)} (h : ∀ x ∈ rows, R3 x) {r : Nat} (hr : r < rows.length) : R3 (rowA rows r) := by
  unfold rowA
  rw [List.getD_eq_getElem?_getD, List.getElem?_eq_getElem hr]
  exact h _ (List.getElem_mem hr)
theorem back_s {rows : List (List Int)} (h : ∀ x ∈ rows, R3 x) (e : Int) {i : Nat} (hi : i < rows.length) {idx : List Nat} (hlt : ∀ r ∈ idx, r < rows.length) (hl : idx.length ≤ 1000) : ∀ (k : Nat), k ≤ idx.length →
    ∃ j : Nat, iter (fun s => spec_ProfileOf_l10 (rows, e) (i : Int) idx s) (k : Int) = some (.stop (j : Int)) ∧ j ≤ k ∧ (∀ y ∈ (idx.take k).drop j, ltR (rowA rows i) (rowA rows y) = true) ∧ (j = 0 ∨ ∃ hj : j - 1 < idx.length, ltR (rowA rows i) (rowA rows idx[j - 1]) = false)
  | 0, _ => ⟨0, iter_stop (by
      unfold spec_ProfileOf_l10
      dsimp only
      rfl), Nat.le_refl _, by simp, .inl rfl⟩
  | k + 1, hk => by
    have hkl : k < idx.length := by omega
    have hr := hlt _ (List.getElem_mem hkl)
    have hw : w64 (((k + 1 : Nat) : Int) - 1) = (k : Int) := by rw [w64_id (by omega) (by omega)]; omega
    have hb : spec_ProfileOf_l10 (rows, e) (i : Int) idx ((k + 1 : Nat) : Int) = if ltR (rowA rows i) (rowA rows idx[k]) = true then some (.next (k : Int)) else some (.stop ((k + 1 : Nat) : Int)) := by
      unfold spec_ProfileOf_l10
      dsimp only
      rw [dtt (by omega), if_pos rfl, List.length_range, if_pos ⟨by omega, by omega⟩, hw, if_pos ⟨by omega, by omega⟩, gl_range hi, gl_nat hkl, show rows.getD i [] = rowA rows i from rfl, show rows.getD idx[k] [] = rowA rows idx[k] from rfl, less_R3 (rowA_R3 h hi) (rowA_R3 h hr)]
      simp only [Option.bind_some]
    cases hlx : ltR (rowA rows i) (rowA rows idx[k]) with
    | true =>
      obtain ⟨j, h1, h2, h3, h4⟩ := back_s h e hi hlt hl k (by omega)
      refine ⟨j, ?_, by omega, fun y hy => ?_, h4⟩
      · rw [iter_next (s' := (k : Int)) (by rw [hb, hlx]; rfl)]
        exact h1
      · rw [← List.take_append_getElem hkl, List.drop_append_of_le_length (by rw [List.length_take]; omega)] at hy
        rcases List.mem_append.1 hy with hy | hy
        · exact h3 y hy
        · rw [List.mem_singleton.1 hy]; exact hlx
    | false =>
      refine ⟨k + 1, iter_stop (by rw [hb, hlx]; rfl), Nat.le_refl _, fun y hy => ?_, .inr ⟨by simpa using hkl, by simpa using hlx⟩⟩
      rw [List.drop_of_length_le (by rw [List.length_take]; omega)] at hy
      cases hy
theorem PInv.put {rows : List (List Int)} (h : ∀ x ∈ rows, R3 x) {i : Nat} {idx : List Nat} (hI : PInv rows i idx) (hi : i < rows.length) {j : Nat} (hj : j ≤ idx.length) (h1 : ∀ y ∈ idx.drop j, ltR (rowA rows i) (rowA rows y) = true)
    (h2 : j = 0 ∨ ∃ hj : j - 1 < idx.length, ltR (rowA rows i) (rowA rows idx[j - 1]) = false) : PInv rows (i + 1) (idx.take j ++ i :: idx.drop j) := by
  have hlt : ∀ r ∈ idx, r < rows.length := fun r hr => by have := List.mem_range.1 (hI.perm.mem_iff.1 hr); omega
  have hR : ∀ r ∈ idx, R3 (rowA rows r) := fun r hr => rowA_R3 h (hlt r hr)
  have hRi := rowA_R3 h hi
  have hk : ∀ {x}, R3 x → (k3 x).length = 3 := fun hx => hx.eq.1
  refine ⟨?_, ?_⟩
  · rw [List.range_succ]
    have e : (idx.take j ++ i :: idx.drop j).Perm (i :: idx) := by
      refine List.perm_middle.trans ?_
      rw [List.take_append_drop]
    exact e.trans ((hI.perm.cons i).trans (List.perm_append_singleton i (List.range i)).symm)
  · have hs := hI.srt
    rw [← List.take_append_drop j idx, List.pairwise_append] at hs
    obtain ⟨s1, s2, s3⟩ := hs
    rw [List.pairwise_append]
    refine ⟨s1, List.pairwise_cons.2 ⟨fun y hy => lx_asym (h1 y hy), s2⟩, fun x hx y hy => ?_⟩
    have hx2 : ltR (rowA rows i) (rowA rows x) = false := by
      rcases h2 with h2 | ⟨hj1, h2⟩
      · subst h2; simp at hx
      · have hj0 : 0 < j := by
          rcases Nat.eq_zero_or_pos j with h0 | h0
          · subst h0; simp at hx
          · exact h0
        obtain ⟨t, ht, rfl⟩ := List.mem_iff_getElem.1 hx
        have ht' : t < j := by rw [List.length_take] at ht; omega
        rw [List.getElem_take]
        rcases Nat.lt_or_ge t (j - 1) with h3 | h3
        · have := List.pairwise_iff_getElem.1 hI.srt t (j - 1) (by omega) hj1 h3
          exact lx_ntrans (by rw [hk hRi, hk (hR _ (List.getElem_mem hj1))]) (by rw [hk (hR _ (List.getElem_mem hj1)), hk (hR _ (List.getElem_mem _))]) h2 this
        · have : t = j - 1 := by omega
          subst this; exact h2
    rcases List.mem_cons.1 hy with rfl | hy
    · exact hx2
    · exact s3 x hx y hy
theorem profile_s {rows : List (List Int)} (h : ∀ x ∈ rows, R3 x) (e : Int) (hn : rows.length ≤ 1000) : ∀ (d i : Nat) (idx : List Nat), i + d = rows.length → PInv rows i idx →
    ∃ idx', iter (fun s : Int × List Nat => spec_ProfileOf_l5 (rows, e) s.1 s.2) ((i : Int), idx) = some (.stop ((rows.length : Int), idx')) ∧ PInv rows rows.length idx'
  | 0, i, idx, hd, hI => by
    have : i = rows.length := by omega
    subst this
    refine ⟨idx, iter_stop ?_, hI⟩
    show spec_ProfileOf_l5 (rows, e) _ idx = _
    unfold spec_ProfileOf_l5
    dsimp only
    rw [List.length_range, dff (by omega), if_neg (by decide)]
  | d + 1, i, idx, hd, hI => by
    have hi : i < rows.length := by omega
    have hlen : idx.length = i := by have := hI.perm.length_eq; rwa [List.length_range] at this
    have hlt : ∀ r ∈ idx, r < rows.length := fun r hr => by have := List.mem_range.1 (hI.perm.mem_iff.1 hr); omega
    obtain ⟨j, b1, b2, b3, b4⟩ := back_s h e hi hlt (by omega) idx.length (Nat.le_refl _)
    rw [List.take_length] at b3
    have hI2 := hI.put h hi b2 b3 b4
    obtain ⟨idx', g1, g2⟩ := profile_s h e hn d (i + 1) _ (by omega) hI2
    refine ⟨idx', ?_, g2⟩
    rw [iter_next (s' := (((i + 1 : Nat) : Int), idx.take j ++ i :: idx.drop j)) ?_]
    · exact g1
    · show spec_ProfileOf_l5 (rows, e) (i : Int) idx = _
      unfold spec_ProfileOf_l5
      dsimp only
      rw [List.length_range, dtt (by omega), if_pos rfl, b1]
      simp only [Option.bind_some]
      have z0 : (0 : Int).toNat = 0 := rfl
      rw [if_pos ⟨by omega, by omega⟩, if_pos ⟨by omega, by omega⟩, if_pos (by simp; omega), if_pos ⟨by omega, by omega⟩, if_pos (by simp; omega), if_pos (by simp; omega), gl_range hi, w64s (by omega)]
      simp only [Int.toNat_natCast, List.take_length, z0, List.drop_zero, List.nil_append, List.singleton_append]
theorem sorted_of {rows : List (List Int)} (h : ∀ x ∈ rows, R3 x) (hn : rows.length ≤ 1000) {idx : List Nat} (hI : PInv rows rows.length idx) : slices_SortFunc_86_f87 rows = some (gi idx rows) := by
  unfold slices_SortFunc_86_f87
  have hlt : ∀ r ∈ idx, r < rows.length := fun r hr => List.mem_range.1 (hI.perm.mem_iff.1 hr)
  refine sortRows_eq ⟨cmpR_rows h, by omega, ?_, ?_⟩
  · have := hI.perm.map (fun r => rows.getD r [])
    have e : (List.range rows.length).map (fun r => rows.getD r []) = rows := gi_range rows
    rw [e] at this
    exact this
  · unfold gi
    rw [List.pairwise_map]
    refine hI.srt.imp_of_mem fun {x y} hx hy hxy => ?_
    exact (lt_R3 (rowA_R3 h (hlt y hy)) (rowA_R3 h (hlt x hx))).trans hxy
theorem rkE_R3 (a : Sch) (q : Prod) : R3 (rkE a q) := ⟨[rk a.p a.n.toNat a.m.toNat 0 0 (mrow q.1 a.m.toNat), rk a.p a.m.toNat a.k.toNat 0 0 (mrow q.2.1 a.k.toNat), rk a.p a.n.toNat a.k.toNat 0 0 (mrow q.2.2 a.k.toNat)], rfl, rfl⟩
theorem profile_eq (a : Sch) (ha : a.ps.length < 9223372036854775807) : ∃ L e, spec_ProfileOf a = some (L, e) ∧ impl_ProfileOf a = some (L, e) ∧ L.length ≤ 60 ∧ ∀ x ∈ L, x.length = 3 := by
  obtain ⟨h1, h2⟩ := scheme_eq3 a ha
  unfold spec_ProfileOf impl_ProfileOf spec_RanksOf
  rw [h1, h2]
  simp only [Option.bind_some]
  cases hs : schemeB a with
  | false => exact ⟨[], 1, rfl, rfl, by simp, by simp⟩
  | true =>
    have h := schemeB_is hs
    have hl := h.l
    obtain ⟨_, g1, g2⟩ := ranks_both h
    have hml : (a.ps.map (rkE a)).length = a.ps.length := List.length_map _
    have hR : ∀ x ∈ a.ps.map (rkE a), R3 x := fun x hx => by obtain ⟨q, _, rfl⟩ := List.mem_map.1 hx; exact rkE_R3 a q
    have hgi : gi (List.range a.ps.length) (a.ps.map (rkE a)) = a.ps.map (rkE a) := by
      have := gi_range (a.ps.map (rkE a))
      rwa [List.length_map] at this
    obtain ⟨idx, p1, p2⟩ := profile_s hR 0 (by omega) a.ps.length 0 [] (by omega) ⟨List.Perm.refl _, List.Pairwise.nil⟩
    rw [show ((0 : Nat) : Int) = 0 from rfl] at p1
    have hS := sorted_of hR (by omega) p2
    have hil : idx.length = a.ps.length := by have := p2.perm.length_eq; rw [List.length_range] at this; omega
    refine ⟨gi idx (a.ps.map (rkE a)), 0, ?_, ?_, by rw [gi_len]; omega, fun x hx => ?_⟩
    · simp only [Bool.not_true, Bool.false_eq_true, if_false]
      rw [g1]
      simp only [Option.bind_some, if_pos List.nodup_range, hgi, ne_eq, not_true_eq_false, decide_false, Bool.false_eq_true, if_false]
      rw [p1]
      rfl
    · simp only [Bool.not_true, Bool.false_eq_true, if_false]
      unfold impl_ranks
      rw [g2]
      simp only [Option.bind_some, if_pos List.nodup_range, hgi]
      rw [hS]
      simp only [Option.bind_some, if_pos List.nodup_range, gi_range]
    · obtain ⟨r, hr, rfl⟩ := List.mem_map.1 hx
      have hrl := List.mem_range.1 (p2.perm.mem_iff.1 hr)
      obtain ⟨L, l1, l2⟩ := rowA_R3 hR hrl
      have : (a.ps.map (rkE a)).getD r [] = cz L := l2
      rw [this, cz_len, l1]
end Go.Proofs.YtB
