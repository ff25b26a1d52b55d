/- Words of this seat's own: a region whose order is open: each of its first operations by what it answers, whatever ran before it; the rest in order. -/
import Derived.Test.YtbhaeajdabgnhaaCsB7
import Derived.StillTail
set_option linter.unusedVariables false
set_option linter.unusedSimpArgs false
set_option linter.unusedSectionVars false
namespace Go.Proofs.YtB
open Go Go.RowKit
variable {P : Program} {n : Nat} {a : Act} {L : List (Nat × Value)} {w w' w0 : World} {Q : Exit → Act → World → Prop} {ops : Array Oper} {rest : List Oper} {o : Oper}
variable {ρ ρ' : Nat → Nat}
def drawB (l : List Oper) (h : Nat) : Bool :=
  ((List.range h).all fun i => match l[i]? with
    | some o => o.after.all fun e => !Region.binds .any e || decide (e.on < i)
    | none => false) &&
  (decide (h = l.length) || (decide (h < l.length) && Region.sinkB .any l.toArray h && Region.chainB .any l.toArray h && Region.seqB .any l.toArray (l.length - h) h (Array.replicate h true ++ Array.replicate (l.length - h) false)))
def undone (listed : Array Bool) (h : Nat) : Nat := ((List.range h).filter fun i => !listed.getD i false).length
theorem undone_set {listed : Array Bool} {h i : Nat} (hi : i < h) (hs : i < listed.size) (hl : listed.getD i false = false) : undone (listed.setIfInBounds i true) h + 1 = undone listed h := by
  unfold undone
  induction h with
  | zero => omega
  | succ h ih =>
    rw [List.range_succ, List.filter_append, List.filter_append, List.length_append, List.length_append]
    by_cases hih : i = h
    · subst hih
      have e1 : ((List.range i).filter fun j => !(listed.setIfInBounds i true).getD j false) = (List.range i).filter fun j => !listed.getD j false := by
        apply List.filter_congr
        intro j hj
        have := List.mem_range.1 hj
        rw [getD_set_ne false (by omega)]
      rw [e1]
      have e2 : (listed.setIfInBounds i true).getD i false = true := by simp [hs]
      simp only [List.filter_cons, e2, hl, List.filter_nil]
      simp
    · have := ih (by omega)
      rw [← this]
      have e3 : (listed.setIfInBounds i true).getD h false = listed.getD h false := getD_set_ne false hih
      simp only [List.filter_cons, e3, List.filter_nil]
      omega
theorem undone_zero {listed : Array Bool} {h : Nat} (h0 : undone listed h = 0) : ∀ i, i < h → listed.getD i false = true := by
  intro i hi
  have h1 := List.length_eq_zero_iff.1 h0
  have h2 := List.filter_eq_nil_iff.1 h1 i (List.mem_range.2 hi)
  simpa using h2
theorem undone_pos {listed : Array Bool} {h d : Nat} (h0 : undone listed h = d + 1) : ∃ i, i < h ∧ listed.getD i false = false ∧ ∀ j, j < i → listed.getD j false = true := by
  have hex : ∃ i, i < h ∧ listed.getD i false = false := by
    rcases Nat.eq_zero_or_pos ((List.range h).filter fun i => !listed.getD i false).length with h1 | h1
    · unfold undone at h0; omega
    · obtain ⟨i, hi⟩ := List.exists_mem_of_length_pos h1
      rw [List.mem_filter] at hi
      exact ⟨i, List.mem_range.1 hi.1, by simpa using hi.2⟩
  obtain ⟨i, hi, hl⟩ := hex
  induction i using Nat.strongRecOn with
  | _ i ih =>
    by_cases hall : ∀ j, j < i → listed.getD j false = true
    · exact ⟨i, hi, hl, hall⟩
    · simp only [Classical.not_forall] at hall
      obtain ⟨j, hj, hnj⟩ := hall
      exact ih j hj (by omega) (by simpa using hnj)

/-- 'j waits for i' -/
def depB (o : Oper) (j : Nat) : Bool := o.after.any fun e => Region.binds .any e && e.on == j
theorem c_any {id h : Nat} {l : List Oper} (hm : P.follows .mixedOrders = true) (hB : drawB l h = true) (I : (Nat → Prop) → Act → World → Prop)
    (hI : ∀ S S' a w, (∀ j, j < h → (S j ↔ S' j)) → I S a w → I S' a w)
    (h0 : I (fun _ => False) a { w with drawn := w.drawn + 1 })
    (step : ∀ S a w i o, i < h → l[i]? = some o → ¬ S i → (∀ j, depB o j = true → S j) → I S a w → wpOp P l.toArray Q i (fun a' w' => I (fun j => j = i ∨ S j) a' w') a w)
    (tail : ∀ a w, I (fun _ => True) a w → wpList P l.toArray Q (l.drop h) a w) : (Code.region id l.toArray true).wp P Q a w := by
  simp only [drawB, Bool.and_eq_true, Bool.or_eq_true, decide_eq_true_eq] at hB
  obtain ⟨hback, hB⟩ := hB
  have hle : h ≤ l.length := by omega
  refine wp_region_any hm ?_
  have key : ∀ d listed a w, undone listed h = d → HeadInv .any l.toArray h listed → I (fun j => listed.getD j false = true) a w → wpAny P .any l.toArray Q (d + (l.length - h)) listed a w := by
    intro d
    induction d with
    | zero =>
      intro listed a w hd inv hIa
      have hall := undone_zero hd
      have ht := tail a w (hI _ _ a w (fun j hj => ⟨fun _ => trivial, fun _ => hall j hj⟩) hIa)
      have hlisted : listed = Array.replicate h true ++ Array.replicate (l.length - h) false := by
        apply Array.ext
        · simp [inv.size]; omega
        · intro i h1 h2
          rw [inv.size] at h1
          by_cases hih : i < h
          · have := hall i hih
            simp [inv.size, h1] at this
            have h3 : i < l.length := by simpa using h1
            rw [Array.getElem_append_left (by simpa using hih)]
            simp only [Array.getElem_replicate]
            simpa [inv.size, h3] using this
          · have := inv.tail i (by omega) h1
            have h3 : i < l.length := by simpa using h1
            rw [Array.getElem_append_right (by simpa using Nat.le_of_not_lt hih)]
            simp only [Array.getElem_replicate]
            simpa [inv.size, h3] using this
      rcases hB with hB | hB
      · have hd0 : l.drop h = [] := by rw [List.drop_eq_nil_of_le (by omega)]
        rw [hd0] at ht
        have hnil : Region.ready .any l.toArray listed = [] := by
          apply List.eq_nil_iff_forall_not_mem.2
          intro i hi
          obtain ⟨h1, oi, hoi, _⟩ := mem_ready.1 hi
          have hlt : i < l.length := by
            have := (Array.getElem?_eq_some_iff.1 hoi).1
            simpa using this
          have h2 := hall i (by omega)
          rw [getD_both h1] at h2
          cases h2
        rw [show 0 + (l.length - h) = 0 by omega]
        exact ⟨hnil, ht⟩
      · have hseq := hB.2
        rw [← hlisted] at hseq
        have := wpAny_of_seq (P := P) (md := .any) (ops := l.toArray) (Q' := Q) (l.drop h) h listed a w (fun j => by simp) (by rw [List.length_drop]; exact hseq) ht
        rw [List.length_drop] at this
        rwa [Nat.zero_add]
    | succ d ih =>
      intro listed a w hd inv hIa
      obtain ⟨i0, hi0, hl0, hmin⟩ := undone_pos hd
      have hsz : listed.size = l.length := by rw [inv.size]; simp
      have hr0 : i0 ∈ Region.ready .any l.toArray listed := by
        have hb := List.all_eq_true.1 hback i0 (List.mem_range.2 hi0)
        cases ho : l[i0]? with
        | none => rw [ho] at hb; cases hb
        | some oi =>
          rw [ho] at hb
          refine mem_ready.2 ⟨getD_in (by omega) hl0, oi, by simpa using ho, fun e he hbd => hmin e.on ?_⟩
          have := Array.all_eq_true'.1 hb e he
          simpa [hbd] using this
      have hhd : ∀ i ∈ Region.ready .any l.toArray listed, i < h := by
        intro i hi
        rcases Nat.lt_or_ge i h with h1 | h1
        · exact h1
        · exfalso
          have hlt : i < l.toArray.size := by
            obtain ⟨_, oi, hoi, _⟩ := mem_ready.1 hi
            exact (Array.getElem?_eq_some_iff.1 hoi).1
          rcases hB with hB | hB
          · simp at hlt; omega
          · exact tail_waits (md := .any) (ops := l.toArray) hB.1.1.2 hB.1.2 (by simpa using hB.1.1.1) inv (h - i0) i0 rfl hi0 (getD_in (by omega) hl0) i h1 hi
      rw [show d + 1 + (l.length - h) = (d + (l.length - h)) + 1 by omega]
      refine ⟨fun h1 => (by rw [h1] at hr0; cases hr0), fun i hi => ?_⟩
      have hih := hhd i hi
      obtain ⟨hli, oi, hoi, hdeps⟩ := mem_ready.1 hi
      have hoi' : l[i]? = some oi := by simpa using hoi
      have hs := step (fun j => listed.getD j false = true) a w i oi hih hoi' (by rw [getD_both hli]; simp) (fun j hj => by
        obtain ⟨e, he, hb⟩ := Array.any_eq_true'.1 hj
        simp only [Bool.and_eq_true, beq_iff_eq] at hb
        rw [← hb.2]
        exact hdeps e he hb.1) hIa
      refine wpOp_mono (fun a' w' hI' => ?_) hs
      have hiz : i < listed.size := by omega
      refine ih _ a' w' (by have := undone_set hih hiz (getD_both hli); omega) (inv.set hi hih) (hI _ _ a' w' (fun j _ => ?_) hI')
      by_cases hji : j = i
      · subst hji
        simp [hiz]
      · rw [getD_set_ne false (Ne.symm hji)]
        simp [hji]
  have hu : undone (Array.replicate l.toArray.size false) h = h := by
    unfold undone
    rw [List.filter_eq_self.2 (fun i _ => by rw [getD_replicate_false]; rfl)]
    simp
  have := key h (Array.replicate l.toArray.size false) a _ hu ⟨by simp, fun j oj _ hl => (by rw [getD_replicate_false] at hl; cases hl), fun t _ ht => getD_in (by simpa using ht) (getD_replicate_false _ _)⟩ (hI _ _ _ _ (fun j _ => by rw [getD_replicate_false]; simp) h0)
  rw [show h + (l.length - h) = l.toArray.size by simp; omega] at this
  exact this

/-- a fact on an answer that lasts -/
def Lasts (R : (Nat → Nat) → World → Value → Prop) : Prop := ∀ ρ w ρ' w' v, Ext ρ w ρ' w' → R ρ w v → R ρ' w' v
theorem Fr.more (hf : Fr n a L) {t : Nat} {v : Value} (h : a.tmps[t]? = some v) : Fr n a ((t, v) :: L) := by
  refine ⟨hf.d, hf.s, fun t' v' h' => ?_⟩
  simp only [look] at h'
  cases hb : Nat.beq t t' with
  | true =>
    rw [hb] at h'
    injection h' with h'
    subst h'
    rw [← Nat.eq_of_beq_eq_true hb]
    exact h
  | false =>
    rw [hb] at h'
    exact hf.l t' v' h'
/-- the temporaries that the first operations write: none twice, none that is told in L -/
def dstOf (l : List Oper) (j : Nat) : Nat := ((l[j]?).bind (·.dst)).getD 0
def dstB (l : List Oper) (h n : Nat) (ks : List Nat) : Bool :=
  (List.range h).all fun i => (match l[i]? with
    | some o => o.dst.isSome
    | none => false) && decide (dstOf l i < n) && !ks.contains (dstOf l i) && (List.range i).all fun j => dstOf l j != dstOf l i
theorem c_draw {id h : Nat} {l : List Oper} (hm : P.follows .mixedOrders = true) (hB : drawB l h = true) (hD : dstB l h n (L.map (·.1)) = true) (Γ : (Nat → Nat) → World → Prop) (hΓ : ∀ ρ w ρ' w', Ext ρ w ρ' w' → Γ ρ w → Γ ρ' w')
    (R : Nat → (Nat → Nat) → World → Value → Prop) (hR : ∀ j, j < h → Lasts (R j)) (hw : Wd w0 ρ w) (hG : Γ ρ w) (hf : Fr n a L)
    (step : ∀ i o ρ w a, i < h → l[i]? = some o → Wd w0 ρ w → Γ ρ w → Fr n a L → (∀ j, depB o j = true → ∃ v, a.tmps[dstOf l j]? = some v ∧ R j ρ w v) →
      ∀ K : Act → World → Prop, (∀ a' v ρ' w', Wd w0 ρ' w' → Ext ρ w ρ' w' → R i ρ' w' v → a' = a.put (some (dstOf l i)) v → K a' w') → if Region.wanted o (yielded l.toArray a.tmps) = true then o.wp P a w K Q else K (a.put o.dst undef) w)
    (tail : ∀ ρ w a, Wd w0 ρ w → Γ ρ w → Fr n a L → (∀ j, j < h → ∃ v, a.tmps[dstOf l j]? = some v ∧ R j ρ w v) → wpList P l.toArray Q (l.drop h) a w) : (Code.region id l.toArray true).wp P Q a w := by
  have hDi : ∀ i, i < h → ∃ o, l[i]? = some o ∧ o.dst = some (dstOf l i) ∧ dstOf l i < n ∧ ¬ dstOf l i ∈ L.map (·.1) ∧ ∀ j, j < i → dstOf l j ≠ dstOf l i := by
    intro i hi
    have h1 := List.all_eq_true.1 hD i (List.mem_range.2 hi)
    simp only [Bool.and_eq_true, decide_eq_true_eq, Bool.not_eq_true', List.contains_eq_mem, decide_eq_false_iff_not] at h1
    obtain ⟨⟨⟨h2, h3⟩, h4⟩, h5⟩ := h1
    cases ho : l[i]? with
    | none => rw [ho] at h2; cases h2
    | some o =>
      rw [ho] at h2
      obtain ⟨d, hd⟩ := Option.isSome_iff_exists.1 h2
      refine ⟨o, rfl, ?_, h3, h4, fun j hj => ?_⟩
      · simp [dstOf, ho, hd]
      · have := List.all_eq_true.1 h5 j (List.mem_range.2 hj)
        simpa using this
  have hne : ∀ i j, i < h → j < h → i ≠ j → dstOf l i ≠ dstOf l j := by
    intro i j hi hj hij
    rcases Nat.lt_or_gt_of_ne hij with h1 | h1
    · obtain ⟨_, _, _, _, _, h2⟩ := hDi j hj
      exact h2 i h1
    · obtain ⟨_, _, _, _, _, h2⟩ := hDi i hi
      exact fun he => h2 j h1 he.symm
  have hlk : ∀ (L : List (Nat × Value)) t v, look L t = some v → t ∈ L.map (·.1) := by
    intro L
    induction L with
    | nil => intro t v h; cases h
    | cons p r ih =>
      intro t v h
      obtain ⟨k, u⟩ := p
      simp only [look] at h
      cases hb : Nat.beq k t with
      | true =>
        have := Nat.eq_of_beq_eq_true hb
        simp [this]
      | false =>
        rw [hb] at h
        have := ih t v h
        simp only [List.map_cons, List.mem_cons]
        exact .inr this
  refine c_any (h := h) hm hB (fun S a w => ∃ ρ, Wd w0 ρ w ∧ Γ ρ w ∧ Fr n a L ∧ ∀ j, j < h → S j → ∃ v, a.tmps[dstOf l j]? = some v ∧ R j ρ w v) ?_ ?_ ?_ ?_
  · rintro S S' a w hS ⟨ρ, h1, h2, h3, h4⟩
    exact ⟨ρ, h1, h2, h3, fun j hj hj' => h4 j hj ((hS j hj).2 hj')⟩
  · have hE : Ext ρ w ρ { w with drawn := w.drawn + 1 } := ⟨⟨rfl, rfl, rfl, Nat.le_refl _, fun _ _ => rfl, Nat.le_succ _⟩, fun _ _ => rfl⟩
    exact ⟨ρ, ⟨⟨hw.below.os, hw.below.tape, hw.below.output, hw.below.size, hw.below.block, Nat.le_succ_of_le hw.below.drawn⟩, hw.own⟩, hΓ _ _ _ _ hE hG, hf, fun _ _ h => h.elim⟩
  · rintro S a w i o hi ho hSi hdep ⟨ρ, h1, h2, h3, h4⟩
    obtain ⟨o', ho', hdst, hdn, hdl, _⟩ := hDi i hi
    rw [ho] at ho'
    injection ho' with ho'
    subst ho'
    have hback : ∀ j, depB o j = true → j < h := by
      intro j hj
      simp only [drawB, Bool.and_eq_true] at hB
      have hb := List.all_eq_true.1 hB.1 i (List.mem_range.2 hi)
      rw [ho] at hb
      obtain ⟨e, he, hbe⟩ := Array.any_eq_true'.1 hj
      simp only [Bool.and_eq_true, beq_iff_eq] at hbe
      have := Array.all_eq_true'.1 hb e he
      simp only [hbe.1, Bool.not_true, Bool.false_or, decide_eq_true_eq] at this
      omega
    have hs := step i o ρ w a hi ho h1 h2 h3 (fun j hj => h4 j (hback j hj) (hdep j hj))
      (fun a' w' => ∃ ρ, Wd w0 ρ w' ∧ Γ ρ w' ∧ Fr n a' L ∧ ∀ j, j < h → (j = i ∨ S j) → ∃ v, a'.tmps[dstOf l j]? = some v ∧ R j ρ w' v) (by
        rintro a' v ρ' w' h5 h6 h7 rfl
        have hput : ∀ t, t ≠ dstOf l i → (a.put (some (dstOf l i)) v).tmps[t]? = a.tmps[t]? := by
          intro t ht
          simp only [Act.put]
          rw [Array.getElem?_setIfInBounds_ne (Ne.symm ht)]
        refine ⟨ρ', h5, hΓ _ _ _ _ h6 h2, ⟨h3.d, by simp [Act.put, h3.s], fun t u hu => ?_⟩, fun j hj hS => ?_⟩
        · rw [hput t (fun he => hdl (by rw [← he]; exact hlk L t u hu))]
          exact h3.l t u hu
        · by_cases hji : j = i
          · subst hji
            exact ⟨v, by simp [Act.put, h3.s, hdn], h7⟩
          · obtain ⟨u, hu, hRu⟩ := h4 j hj (hS.resolve_left hji)
            exact ⟨u, by rw [hput _ (hne j i hj hi hji)]; exact hu, hR j hj _ _ _ _ _ h6 hRu⟩)
    unfold wpOp
    have : l.toArray[i]? = some o := by simpa using ho
    simp only [this]
    split
    · rename_i hw'
      rw [if_pos hw'] at hs
      exact .inl hs
    · rename_i hw'
      rw [if_neg hw'] at hs
      exact hs
  · rintro a w ⟨ρ, h1, h2, h3, h4⟩
    exact tail ρ w a h1 h2 h3 (fun j hj => h4 j hj trivial)
end Go.Proofs.YtB
