/- Words of this seat's own: a region whose order is open and that has effects, one after the other. -/
import Derived.Test.YtbhaeajdabgnhaaCsB10
set_option linter.unusedVariables false
set_option linter.unusedSimpArgs false
set_option linter.unusedSectionVars false
namespace Go.Proofs.YtB
open Go Go.RowKit
open Go.Proofs.YtbhaeajdabgnhaaW.PrintWords
variable {P : Program} {n : Nat} {a : Act} {L : List (Nat × Value)} {w w' w0 : World} {Q : Exit → Act → World → Prop} {ops : Array Oper} {rest : List Oper} {o : Oper}
variable {ρ ρ' : Nat → Nat}
/-- a fact on an answer, by how many of the effects have been -/
abbrev SR := Nat → (Nat → Nat) → World → Value → Prop
def hasD (l : List Oper) (j : Nat) : Bool := match l[j]? with
  | some o => o.dst.isSome
  | none => false
def dep (l : List Oper) (i j : Nat) : Bool := match l[i]? with
  | some o => depB o j
  | none => false
/-- 'i waits for j', by one step or two -/
def dep2 (l : List Oper) (i j : Nat) : Bool := dep l i j || (List.range i).any fun k => dep l i k && dep l k j
/-- the first h operations: 'ms' are the effects among them, in their order; the others have an answer -/
def stageB (l : List Oper) (h n : Nat) (ks : List Nat) (ms : List Nat) : Bool :=
  ((List.range h).all fun i => (ms.contains i || hasD l i) && (!hasD l i || (decide (dstOf l i < n) && !ks.contains (dstOf l i) && (List.range i).all fun j => !hasD l j || dstOf l j != dstOf l i))) &&
  ((List.range ms.length).all fun m => decide (ms.getD m 0 < h) && (List.range m).all fun m' => dep l (ms.getD m 0) (ms.getD m' 0) && ms.getD m' 0 != ms.getD m 0)
def nth (Rl : List SR) (j : Nat) : SR := Rl.getD j fun _ _ _ _ => True
/-- what holds of the answers that are there -/
def Got (l : List Oper) (h : Nat) (Rl : List SR) (S : Nat → Prop) (c : Nat) (ρ : Nat → Nat) (w : World) (a : Act) : Prop :=
  ∀ j, j < h → S j → hasD l j = true → ∃ v, a.tmps[dstOf l j]? = some v ∧ nth Rl j c ρ w v
def FloatB (P : Program) (w0 : World) (n : Nat) (L : List (Nat × Value)) (l : List Oper) (Q : Exit → Act → World → Prop) (Γ : Nat → (Nat → Nat) → World → Prop) (Rl : List SR) (ms : List Nat) (i : Nat) (o : Oper) : Prop :=
  ∀ c ρ w a, (∀ m, m < ms.length → dep2 l (ms.getD m 0) i = true → c ≤ m) → Wd w0 ρ w → Γ c ρ w → Fr n a L → (∀ j, depB o j = true → hasD l j = true → ∃ v, a.tmps[dstOf l j]? = some v ∧ nth Rl j c ρ w v) →
    ∀ K : Act → World → Prop, (∀ a' v ρ' w', Wd w0 ρ' w' → Ext ρ w ρ' w' → nth Rl i c ρ' w' v → a' = a.put (some (dstOf l i)) v → K a' w') → if Region.wanted o (yielded l.toArray a.tmps) = true then o.wp P a w K Q else K (a.put o.dst undef) w
def MainB (P : Program) (w0 : World) (n : Nat) (L : List (Nat × Value)) (l : List Oper) (h : Nat) (Q : Exit → Act → World → Prop) (Γ : Nat → (Nat → Nat) → World → Prop) (Rl : List SR) (m i : Nat) (o : Oper) : Prop :=
  ∀ ρ w a (S : Nat → Prop), Wd w0 ρ w → Γ m ρ w → Fr n a L → Got l h Rl S m ρ w a → (∀ j, depB o j = true → S j) → ¬ S i →
    ∀ K : Act → World → Prop, (∀ a' ρ' w', Wd w0 ρ' w' → Γ (m + 1) ρ' w' → Fr n a' L → Got l h Rl (fun j => j = i ∨ S j) (m + 1) ρ' w' a' → K a' w') → if Region.wanted o (yielded l.toArray a.tmps) = true then o.wp P a w K Q else K (a.put o.dst undef) w
/-- the first operations, each as a float or as an effect -/
def StepsS (P : Program) (w0 : World) (n : Nat) (L : List (Nat × Value)) (l : List Oper) (h : Nat) (Q : Exit → Act → World → Prop) (Γ : Nat → (Nat → Nat) → World → Prop) (Rl : List SR) (ms : List Nat) : Nat → List Oper → Prop
  | _, [] => True
  | i, o :: r => (if ms.contains i then MainB P w0 n L l h Q Γ Rl (ms.idxOf i) i o else FloatB P w0 n L l Q Γ Rl ms i o) ∧ StepsS P w0 n L l h Q Γ Rl ms (i + 1) r
section
variable {l r : List Oper} {h i : Nat} {Γ : Nat → (Nat → Nat) → World → Prop} {Rl : List SR} {ms : List Nat}
theorem StepsS.nil : StepsS P w0 n L l h Q Γ Rl ms i [] := trivial
theorem StepsS.float (hi : ms.contains i = false) (h1 : FloatB P w0 n L l Q Γ Rl ms i o) (hr : StepsS P w0 n L l h Q Γ Rl ms (i + 1) r) : StepsS P w0 n L l h Q Γ Rl ms i (o :: r) := ⟨by rw [hi]; exact h1, hr⟩
theorem StepsS.main (m : Nat) (hi : ms.contains i = true) (hm : ms.idxOf i = m) (h1 : MainB P w0 n L l h Q Γ Rl m i o) (hr : StepsS P w0 n L l h Q Γ Rl ms (i + 1) r) : StepsS P w0 n L l h Q Γ Rl ms i (o :: r) := ⟨by rw [hi, hm]; exact h1, hr⟩
theorem StepsS.at_ : ∀ {r : List Oper} {i : Nat}, StepsS P w0 n L l h Q Γ Rl ms i r → ∀ j o, r[j]? = some o → if ms.contains (i + j) then MainB P w0 n L l h Q Γ Rl (ms.idxOf (i + j)) (i + j) o else FloatB P w0 n L l Q Γ Rl ms (i + j) o
  | [], i, _, j, o, h => by cases h
  | o :: r, i, h, 0, o', h' => by
    injection h' with h'
    subst h'
    exact h.1
  | o :: r, i, h, j + 1, o', h' => by
    have := StepsS.at_ h.2 j o' h'
    rwa [Nat.add_assoc, Nat.add_comm 1 j] at this
/-- a fact lasts over what only makes -/
def LastsS (Rl : List SR) : Prop := ∀ j c ρ w ρ' w' v, Ext ρ w ρ' w' → nth Rl j c ρ w v → nth Rl j c ρ' w' v
theorem LastsS.nil : LastsS [] := by intro j c ρ w ρ' w' v _ _; simp [nth]
theorem LastsS.cons {R : SR} {Rl : List SR} (hR : ∀ c ρ w ρ' w' v, Ext ρ w ρ' w' → R c ρ w v → R c ρ' w' v) (hr : LastsS Rl) : LastsS (R :: Rl) := by
  intro j c ρ w ρ' w' v hE hj
  cases j with
  | zero => exact hR c ρ w ρ' w' v hE hj
  | succ j => exact hr j c ρ w ρ' w' v hE hj
theorem idx_nodup {ms : List Nat} (hd : ∀ m m', m' < m → m < ms.length → ms.getD m' 0 ≠ ms.getD m 0) {m : Nat} (hm : m < ms.length) : ms.idxOf (ms.getD m 0) = m := by
  have hin : ms.getD m 0 ∈ ms := by
    rw [List.getD_eq_getElem?_getD, List.getElem?_eq_getElem hm]
    exact List.getElem_mem hm
  have hlt := List.idxOf_lt_length_of_mem hin
  have hg : ms.getD (ms.idxOf (ms.getD m 0)) 0 = ms.getD m 0 := by
    rw [List.getD_eq_getElem?_getD, List.getElem?_eq_getElem hlt]
    simp
  rcases Nat.lt_trichotomy (ms.idxOf (ms.getD m 0)) m with h1 | h1 | h1
  · exact absurd hg (hd m _ h1 hm)
  · exact h1
  · exact absurd hg.symm (hd _ m h1 hlt)
theorem c_stage {id : Nat} (h : Nat) (ms : List Nat) (hm : P.follows .mixedOrders = true) (hB : drawB l h = true) (hD : stageB l h n (L.map (·.1)) ms = true) (Γ : Nat → (Nat → Nat) → World → Prop) (hΓ : ∀ c ρ w ρ' w', Ext ρ w ρ' w' → Γ c ρ w → Γ c ρ' w')
    (Rl : List SR) (hR : LastsS Rl) (hw : Wd w0 ρ w) (hG : Γ 0 ρ w) (hf : Fr n a L) (steps : StepsS P w0 n L l h Q Γ Rl ms 0 (l.take h))
    (tail : ∀ ρ w a, Wd w0 ρ w → Γ ms.length ρ w → Fr n a L → (∀ j, j < h → hasD l j = true → ∃ v, a.tmps[dstOf l j]? = some v ∧ nth Rl j ms.length ρ w v) → wpList P l.toArray Q (l.drop h) a w) : (Code.region id l.toArray true).wp P Q a w := by
  have hD1 : ∀ i, i < h → (ms.contains i = true ∨ hasD l i = true) ∧ (hasD l i = true → dstOf l i < n ∧ ¬ dstOf l i ∈ L.map (·.1) ∧ ∀ j, j < i → hasD l j = true → dstOf l j ≠ dstOf l i) := by
    intro i hi
    simp only [stageB, Bool.and_eq_true] at hD
    have h1 := List.all_eq_true.1 hD.1 i (List.mem_range.2 hi)
    simp only [Bool.and_eq_true, Bool.or_eq_true, Bool.not_eq_true', decide_eq_true_eq, List.contains_eq_mem, decide_eq_false_iff_not] at h1
    refine ⟨by simpa using h1.1, fun hd => ?_⟩
    rcases h1.2 with h2 | ⟨⟨h2, h3⟩, h4⟩
    · rw [hd] at h2; cases h2
    · refine ⟨h2, h3, fun j hj hdj => ?_⟩
      have := List.all_eq_true.1 h4 j (List.mem_range.2 hj)
      simpa [hdj] using this
  have hD2 : ∀ m, m < ms.length → ms.getD m 0 < h ∧ ∀ m', m' < m → dep l (ms.getD m 0) (ms.getD m' 0) = true ∧ ms.getD m' 0 ≠ ms.getD m 0 := by
    intro m hm
    simp only [stageB, Bool.and_eq_true] at hD
    have h1 := List.all_eq_true.1 hD.2 m (List.mem_range.2 hm)
    simp only [Bool.and_eq_true, decide_eq_true_eq] at h1
    refine ⟨h1.1, fun m' hm' => ?_⟩
    have := List.all_eq_true.1 h1.2 m' (List.mem_range.2 hm')
    simpa using this
  have hidx : ∀ m, m < ms.length → ms.idxOf (ms.getD m 0) = m := fun m hm => idx_nodup (fun m m' h1 h2 => ((hD2 m h2).2 m' h1).2) hm
  have hne : ∀ i j, i < h → j < h → i ≠ j → hasD l i = true → hasD l j = true → dstOf l i ≠ dstOf l j := by
    intro i j hi hj hij hdi hdj
    rcases Nat.lt_or_gt_of_ne hij with h1 | h1
    · exact ((hD1 j hj).2 hdj).2.2 i h1 hdi
    · exact fun he => ((hD1 i hi).2 hdi).2.2 j h1 hdj he.symm
  have hlk : ∀ (L : List (Nat × Value)) t v, look L t = some v → t ∈ L.map (·.1) := by
    intro L
    induction L with
    | nil => intro t v h; cases h
    | cons p r ih =>
      intro t v h
      obtain ⟨k, u⟩ := p
      simp only [look] at h
      cases hb : Nat.beq k t with
      | true =>
        have := Nat.eq_of_beq_eq_true hb
        simp [this]
      | false =>
        rw [hb] at h
        have := ih t v h
        simp only [List.map_cons, List.mem_cons]
        exact .inr this
  have hback : ∀ i o, i < h → l[i]? = some o → ∀ j, depB o j = true → j < i := by
    intro i o hi ho j hj
    simp only [drawB, Bool.and_eq_true] at hB
    have hb := List.all_eq_true.1 hB.1 i (List.mem_range.2 hi)
    rw [ho] at hb
    obtain ⟨e, he, hbe⟩ := Array.any_eq_true'.1 hj
    simp only [Bool.and_eq_true, beq_iff_eq] at hbe
    have := Array.all_eq_true'.1 hb e he
    simp only [hbe.1, Bool.not_true, Bool.false_or, decide_eq_true_eq] at this
    omega
  refine c_any (h := h) hm hB (fun S a w => ∃ c ρ, c ≤ ms.length ∧ (∀ m, m < ms.length → (S (ms.getD m 0) ↔ m < c)) ∧ (∀ i j, i < h → S i → dep l i j = true → S j) ∧ Wd w0 ρ w ∧ Γ c ρ w ∧ Fr n a L ∧ Got l h Rl S c ρ w a) ?_ ?_ ?_ ?_
  · rintro S S' a w hS ⟨c, ρ, h1, h2, h3, h4, h5, h6, h7⟩
    refine ⟨c, ρ, h1, fun m hm => (hS _ (hD2 m hm).1).symm.trans (h2 m hm), fun i j hi hSi hd => ?_, h4, h5, h6, fun j hj hSj hd => h7 j hj ((hS j hj).2 hSj) hd⟩
    have hji : j < h := by
      unfold dep at hd
      split at hd
      · rename_i o ho
        have := hback i o hi ho j hd
        omega
      · cases hd
    exact (hS j hji).1 (h3 i j hi ((hS i hi).2 hSi) hd)
  · have hE : Ext ρ w ρ { w with drawn := w.drawn + 1 } := ⟨⟨rfl, rfl, rfl, Nat.le_refl _, fun _ _ => rfl, Nat.le_succ _⟩, fun _ _ => rfl⟩
    exact ⟨0, ρ, Nat.zero_le _, fun m _ => ⟨fun h => h.elim, fun h => by omega⟩, fun _ _ _ h => h.elim, ⟨⟨hw.below.os, hw.below.tape, hw.below.output, hw.below.size, hw.below.block, Nat.le_succ_of_le hw.below.drawn⟩, hw.own⟩, hΓ _ _ _ _ _ hE hG, hf, fun _ _ h => h.elim⟩
  · rintro S a w i o hi ho hSi hdep ⟨c, ρ, h1, h2, h3, h4, h5, h6, h7⟩
    have hst := StepsS.at_ steps i o (by rw [List.getElem?_take, if_pos hi]; exact ho)
    rw [Nat.zero_add] at hst
    have hdo : ∀ j, dep l i j = depB o j := fun j => by simp [dep, ho]
    have hclose : ∀ i' j, i' < h → (i' = i ∨ S i') → dep l i' j = true → (j = i ∨ S j) := by
      rintro i' j hi' (rfl | hS') hd
      · exact .inr (hdep j (by rw [← hdo]; exact hd))
      · exact .inr (h3 i' j hi' hS' hd)
    have hop : (∀ (K : Act → World → Prop), (∀ a' w', K a' w' → ∃ c ρ, c ≤ ms.length ∧ (∀ m, m < ms.length → ((ms.getD m 0 = i ∨ S (ms.getD m 0)) ↔ m < c)) ∧ (∀ i' j, i' < h → (i' = i ∨ S i') → dep l i' j = true → (j = i ∨ S j)) ∧ Wd w0 ρ w' ∧ Γ c ρ w' ∧ Fr n a' L ∧ Got l h Rl (fun j => j = i ∨ S j) c ρ w' a') →
        (if Region.wanted o (yielded l.toArray a.tmps) = true then o.wp P a w K Q else K (a.put o.dst undef) w) → wpOp P l.toArray Q i (fun a' w' => ∃ c ρ, c ≤ ms.length ∧ (∀ m, m < ms.length → ((ms.getD m 0 = i ∨ S (ms.getD m 0)) ↔ m < c)) ∧ (∀ i' j, i' < h → (i' = i ∨ S i') → dep l i' j = true → (j = i ∨ S j)) ∧ Wd w0 ρ w' ∧ Γ c ρ w' ∧ Fr n a' L ∧ Got l h Rl (fun j => j = i ∨ S j) c ρ w' a') a w) := by
      intro K hK hs
      refine wpOp_mono (K := K) hK ?_
      unfold wpOp
      have : l.toArray[i]? = some o := by simpa using ho
      simp only [this]
      split
      · rename_i hw'
        rw [if_pos hw'] at hs
        exact .inl hs
      · rename_i hw'
        rw [if_neg hw'] at hs
        exact hs
    cases hmi : ms.contains i with
    | true =>
      rw [hmi, if_pos rfl] at hst
      have hmem : i ∈ ms := by simpa using hmi
      have hlt := List.idxOf_lt_length_of_mem hmem
      have hget : ms.getD (ms.idxOf i) 0 = i := by
        rw [List.getD_eq_getElem?_getD, List.getElem?_eq_getElem hlt]
        simp
      have hc : c = ms.idxOf i := by
        have e1 : ¬ ms.idxOf i < c := fun h => hSi (by have := (h2 _ hlt).2 h; rwa [hget] at this)
        rcases Nat.lt_or_ge c (ms.idxOf i) with h8 | h8
        · exfalso
          have h9 := ((hD2 _ hlt).2 c h8).1
          rw [hget, hdo] at h9
          have := (h2 c (by omega)).1 (hdep _ h9)
          omega
        · omega
      subst hc
      refine hop _ (fun a' w' h => h) (hst ρ w a S h4 h5 h6 h7 hdep hSi _ ?_)
      intro a' ρ' w' e1 e2 e3 e4
      refine ⟨ms.idxOf i + 1, ρ', by omega, fun m hm => ?_, hclose, e1, e2, e3, e4⟩
      constructor
      · rintro (h8 | h8)
        · have := hidx m hm
          rw [h8] at this
          omega
        · have := (h2 m hm).1 h8
          omega
      · intro h8
        rcases Nat.lt_or_ge m (ms.idxOf i) with h9 | h9
        · exact .inr ((h2 m hm).2 h9)
        · have : m = ms.idxOf i := by omega
          exact .inl (by rw [this, hget])
    | false =>
      rw [hmi] at hst
      simp only [Bool.false_eq_true, if_false] at hst
      have hdi : hasD l i = true := ((hD1 i hi).1).resolve_left (by rw [hmi]; simp)
      refine hop _ (fun a' w' h => h) (hst c ρ w a (fun m hm hd => ?_) h4 h5 h6 (fun j hj hdj => h7 j (by have := hback i o hi ho j hj; omega) (hdep j hj) hdj) _ ?_)
      · rcases Nat.lt_or_ge m c with h8 | h8
        · have hS0 := (h2 m hm).2 h8
          simp only [dep2, Bool.or_eq_true, List.any_eq_true, List.mem_range, Bool.and_eq_true] at hd
          rcases hd with hd | ⟨k, hk, hd1, hd2⟩
          · exact absurd (h3 _ i (hD2 m hm).1 hS0 hd) hSi
          · exact absurd (h3 k i (Nat.lt_trans hk (hD2 m hm).1) (h3 _ k (hD2 m hm).1 hS0 hd1) hd2) hSi
        · exact h8
      · rintro a' v ρ' w' e1 e2 e3 rfl
        have hput : ∀ t, t ≠ dstOf l i → (a.put (some (dstOf l i)) v).tmps[t]? = a.tmps[t]? := by
          intro t ht
          simp only [Act.put]
          rw [Array.getElem?_setIfInBounds_ne (Ne.symm ht)]
        obtain ⟨hn, hnl, _⟩ := (hD1 i hi).2 hdi
        refine ⟨c, ρ', h1, fun m hm => ?_, hclose, e1, hΓ _ _ _ _ _ e2 h5, ⟨h6.d, by simp [Act.put, h6.s], fun t u hu => ?_⟩, fun j hj hS hdj => ?_⟩
        · rw [← h2 m hm]
          constructor
          · rintro (h8 | h8)
            · exfalso
              have : i ∈ ms := by
                rw [← h8, List.getD_eq_getElem?_getD, List.getElem?_eq_getElem hm]
                exact List.getElem_mem hm
              rw [show ms.contains i = true by simpa using this] at hmi
              cases hmi
            · exact h8
          · exact .inr
        · rw [hput t (fun he => hnl (by rw [← he]; exact hlk L t u hu))]
          exact h6.l t u hu
        · by_cases hji : j = i
          · subst hji
            exact ⟨v, by simp [Act.put, h6.s, hn], e3⟩
          · obtain ⟨u, hu, hRu⟩ := h7 j hj (hS.resolve_left hji) hdj
            exact ⟨u, by rw [hput _ (hne j i hj hi hji hdj hdi)]; exact hu, hR _ _ _ _ _ _ _ e2 hRu⟩
  · rintro a w ⟨c, ρ, h1, h2, h3, h4, h5, h6, h7⟩
    have hc : c = ms.length := by
      rcases Nat.lt_or_ge c ms.length with h8 | h8
      · exact absurd ((h2 c h8).1 trivial) (Nat.lt_irrefl _)
      · omega
    subst hc
    exact tail ρ w a h4 h5 h6 (fun j hj hd => h7 j hj trivial hd)
def PassL (l : List Oper) (a : Act) (m : Nat) (ρ : Nat → Nat) (w : World) (ρ' : Nat → Nat) (w' : World) (i : Nat) : Nat → List SR → Prop
  | _, [] => True
  | j, R :: r => (j ≠ i → (∃ v, a.tmps[dstOf l j]? = some v ∧ R m ρ w v) → ∃ v, a.tmps[dstOf l j]? = some v ∧ R (m + 1) ρ' w' v) ∧ PassL l a m ρ w ρ' w' i (j + 1) r
theorem PassL.nil {m j : Nat} : PassL l a m ρ w ρ' w' i j [] := trivial
theorem PassL.cons {m j : Nat} {R : SR} (h : (∃ v, a.tmps[dstOf l j]? = some v ∧ R m ρ w v) → ∃ v, a.tmps[dstOf l j]? = some v ∧ R (m + 1) ρ' w' v) (hr : PassL l a m ρ w ρ' w' i (j + 1) Rl) : PassL l a m ρ w ρ' w' i j (R :: Rl) := ⟨fun _ => h, hr⟩
theorem PassL.here {m : Nat} {R : SR} (hr : PassL l a m ρ w ρ' w' i (i + 1) Rl) : PassL l a m ρ w ρ' w' i i (R :: Rl) := ⟨fun h => absurd rfl h, hr⟩
theorem PassL.at_ {m i : Nat} : ∀ {Rl : List SR} {k : Nat}, PassL l a m ρ w ρ' w' i k Rl → ∀ j, k + j ≠ i → (∃ v, a.tmps[dstOf l (k + j)]? = some v ∧ nth Rl j m ρ w v) → ∃ v, a.tmps[dstOf l (k + j)]? = some v ∧ nth Rl j (m + 1) ρ' w' v
  | [], k, _, j, _, ⟨v, h1, _⟩ => ⟨v, h1, by simp [nth]⟩
  | R :: r, k, h, 0, hne, hv => h.1 hne hv
  | R :: r, k, h, j + 1, hne, hv => by
    rw [← Nat.add_assoc, Nat.add_right_comm] at hv hne ⊢
    exact PassL.at_ h.2 j hne hv
theorem m_skip {m : Nat} {S : Nat → Prop} {Φ : World → Prop} {K : Act → World → Prop} (hf : Fr n a L) (hS : Got l h Rl S m ρ w a) (hi : hasD l i = false) (hdn : o.dst = none) (hg : Region.wanted o (yielded ops a.tmps) = true)
    (hr : ∃ w', (execOp a.eval o).run P w = .ok .skip w' ∧ Φ w') (hh : ∀ w', Φ w' → ∃ ρ', Wd w0 ρ' w' ∧ Γ (m + 1) ρ' w' ∧ PassL l a m ρ w ρ' w' i 0 Rl)
    (hK : ∀ a' ρ' w', Wd w0 ρ' w' → Γ (m + 1) ρ' w' → Fr n a' L → Got l h Rl (fun j => j = i ∨ S j) (m + 1) ρ' w' a' → K a' w') :
    if Region.wanted o (yielded ops a.tmps) = true then o.wp P a w K Q else K (a.put o.dst undef) w := by
  rw [if_pos hg]
  unfold Oper.wp
  obtain ⟨w', hr, hΦ⟩ := hr
  rw [hr]
  obtain ⟨ρ', h1, h2, h3⟩ := hh w' hΦ
  have e : a.put o.dst undef = a := by rw [hdn]; rfl
  show K (a.put o.dst undef) w'
  rw [e]
  refine hK _ ρ' w' h1 h2 hf fun j hj hSj hd => ?_
  have hne : j ≠ i := by
    rintro rfl
    rw [hi] at hd
    cases hd
  have := h3.at_ j
  rw [Nat.zero_add] at this
  exact this hne (hS j hj (hSj.resolve_left hne) hd)
end
end Go.Proofs.YtB
