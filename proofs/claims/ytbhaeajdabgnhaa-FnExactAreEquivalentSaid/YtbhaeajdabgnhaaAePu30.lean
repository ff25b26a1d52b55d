/- Plain laws: products in order, as both compare them. -/
import Derived.Test.YtbhaeajdabgnhaaAePu23
import Derived.Test.YtbhaeajdabgnhaaAeG3
set_option linter.unusedVariables false
set_option linter.unusedSimpArgs false
namespace Go.Proofs.YtB
open Go Go.RowKit Go.Proofs
/-- less, by the first that differ -/
def lx : List Nat → List Nat → Bool
  | a :: l, b :: m => decide (a < b) || (decide (a = b) && lx l m)
  | _, _ => false
def cv (l m : List Nat) : Int := if lx l m then -1 else if lx m l then 1 else 0
theorem lx_irrefl : ∀ l, lx l l = false
  | [] => rfl
  | a :: l => by simp [lx, lx_irrefl l]
theorem lx_trans : ∀ {l m k : List Nat}, lx l m = true → lx m k = true → lx l k = true
  | [], _, _, h, _ => by simp [lx] at h
  | _ :: _, [], _, h, _ => by simp [lx] at h
  | _ :: _, _ :: _, [], _, h => by simp [lx] at h
  | a :: l, b :: m, c :: k, h1, h2 => by
    simp only [lx, Bool.or_eq_true, Bool.and_eq_true, decide_eq_true_eq] at h1 h2 ⊢
    rcases h1 with h1 | ⟨h1, h3⟩ <;> rcases h2 with h2 | ⟨h2, h4⟩
    · left; omega
    · left; omega
    · left; omega
    · exact .inr ⟨by omega, lx_trans h3 h4⟩
theorem lx_tot : ∀ {l m : List Nat}, l.length = m.length → lx l m = false → lx m l = false → l = m
  | [], [], _, _, _ => rfl
  | [], _ :: _, h, _, _ => by cases h
  | _ :: _, [], h, _, _ => by cases h
  | a :: l, b :: m, h, h1, h2 => by
    simp only [lx, Bool.or_eq_false_iff, Bool.and_eq_false_iff, decide_eq_false_iff_not] at h1 h2
    have hab : a = b := by omega
    subst hab
    have h3 : lx l m = false := by rcases h1.2 with h | h; exact absurd rfl h; exact h
    have h4 : lx m l = false := by rcases h2.2 with h | h; exact absurd rfl h; exact h
    rw [lx_tot (by simpa using h) h3 h4]
theorem lx_asym {l m : List Nat} (h : lx l m = true) : lx m l = false := by
  cases h2 : lx m l
  · rfl
  · have := lx_trans h h2
    rw [lx_irrefl] at this
    cases this
theorem lx_ntrans {l m k : List Nat} (hl : l.length = m.length) (hm : m.length = k.length) (h1 : lx l m = false) (h2 : lx m k = false) : lx l k = false := by
  cases h3 : lx l k
  · rfl
  · cases h4 : lx m l
    · have := lx_tot hl h1 h4
      subst this
      rw [h3] at h2; cases h2
    · have := lx_trans h4 h3
      rw [this] at h2; cases h2
theorem lx_app : ∀ {l l' m m' : List Nat}, l.length = l'.length → lx (l ++ m) (l' ++ m') = (lx l l' || (decide (l = l') && lx m m'))
  | [], [], m, m', _ => by simp [lx]
  | [], _ :: _, _, _, h => by cases h
  | _ :: _, [], _, _, h => by cases h
  | a :: l, b :: l', m, m', h => by
    have ih := lx_app (l := l) (l' := l') (m := m) (m' := m') (by simpa using h)
    simp only [List.cons_append, lx, ih, List.cons.injEq]
    by_cases hab : a = b
    · subst hab; simp
    · simp [hab]
theorem cv_self (l : List Nat) : cv l l = 0 := by simp [cv, lx_irrefl]
theorem cv_ne {l m : List Nat} (hl : l.length = m.length) (h : l ≠ m) : cv l m ≠ 0 := by
  unfold cv
  cases h1 : lx l m
  · cases h2 : lx m l
    · exact absurd (lx_tot hl h1 h2) h
    · decide
  · simp
theorem cv_app {l l' m m' : List Nat} (hl : l.length = l'.length) : cv (l ++ m) (l' ++ m') = if cv l l' ≠ 0 then cv l l' else cv m m' := by
  by_cases h : l = l'
  · subst h
    rw [if_neg (by simp [cv_self])]
    unfold cv
    simp [lx_app, lx_irrefl]
  · rw [if_pos (cv_ne hl h)]
    unfold cv
    simp [lx_app hl, lx_app hl.symm, h, Ne.symm h]
theorem cv_lt (l m : List Nat) : decide (cv l m < 0) = lx l m := by
  unfold cv
  cases lx l m
  · cases lx m l <;> rfl
  · rfl
theorem cv_cons (a b : Nat) (l m : List Nat) : cv (a :: l) (b :: m) = if a < b then -1 else if b < a then 1 else cv l m := by
  unfold cv
  by_cases h1 : a < b
  · simp [lx, h1]
  · by_cases h2 : b < a
    · have h3 : a ≠ b := by omega
      simp [lx, h1, h2, h3, Ne.symm h3]
    · have h3 : a = b := by omega
      subst h3
      simp [lx]
def ns (L : List UInt8) : List Nat := L.map UInt8.toNat
theorem cmp_byte (x y : UInt8) : cmp_Compare_206 x y = some (if x.toNat < y.toNat then -1 else if y.toNat < x.toNat then 1 else 0) := by
  unfold cmp_Compare_206 cmp_isNaN_210
  simp only [Option.bind_some, ne_eq, not_true_eq_false, decide_false, Bool.false_eq_true, if_false]
  by_cases h1 : x.toNat < y.toNat
  · rw [dtt (by omega), if_pos rfl, if_pos h1]
  · rw [dff (by omega), if_neg (by decide), if_neg h1]
    by_cases h2 : y.toNat < x.toNat
    · rw [dtt (by omega), if_pos rfl, if_pos h2]
    · rw [dff (by omega), if_neg (by decide), if_neg h2]
theorem cmp_from {L M : List UInt8} (hLM : L.length = M.length) (hl : L.length ≤ 1000) : ∀ (d j : Nat), j + d = L.length →
    (iter (fun s => slices_Compare_195_l1 L M s) (j : Int)).bind (fun o => match o with | .stop s2 => (if (decide ((L.length : Int) < (M.length : Int))) = true then (some ((-1))) else (some (0))) | .ret r => some r | .next _ => none) = some (cv (ns (L.drop j)) (ns (M.drop j)))
  | 0, j, hj => by
    have : j = L.length := by omega
    subst this
    rw [iter_stop (s' := (L.length : Int)) (by
      unfold slices_Compare_195_l1
      rw [dff (by omega), if_neg (by decide)])]
    simp only [Option.bind_some]
    rw [dff (by omega), if_neg (by decide), List.drop_length, hLM, List.drop_length, cv_self]
  | d + 1, j, hj => by
    have hjl : j < L.length := by omega
    have hjm : j < M.length := by omega
    have hb : slices_Compare_195_l1 L M (j : Int) = if (L[j].toNat < M[j].toNat) then some (.ret (-1)) else if M[j].toNat < L[j].toNat then some (.ret 1) else some (.next ((j + 1 : Nat) : Int)) := by
      unfold slices_Compare_195_l1
      rw [dtt (by omega), if_pos rfl, if_pos ⟨by omega, by omega⟩, dff (by omega), if_neg (by decide), if_pos ⟨by omega, by omega⟩, gl_nat hjl, gl_nat hjm, cmp_byte, w64s (by omega)]
      simp only [Option.bind_some]
      by_cases h1 : L[j].toNat < M[j].toNat
      · simp [h1]
      · by_cases h2 : M[j].toNat < L[j].toNat
        · simp [h1, h2]
        · simp [h1, h2]
    rw [List.drop_eq_getElem_cons hjl, List.drop_eq_getElem_cons hjm]
    show _ = some (cv (L[j].toNat :: ns (L.drop (j + 1))) (M[j].toNat :: ns (M.drop (j + 1))))
    rw [cv_cons]
    by_cases h1 : L[j].toNat < M[j].toNat
    · rw [iter_ret (r := -1) (by rw [hb, if_pos h1]), if_pos h1]; rfl
    · by_cases h2 : M[j].toNat < L[j].toNat
      · rw [iter_ret (r := 1) (by rw [hb, if_neg h1, if_pos h2]), if_neg h1, if_pos h2]; rfl
      · rw [iter_next (s' := ((j + 1 : Nat) : Int)) (by rw [hb, if_neg h1, if_neg h2]), if_neg h1, if_neg h2]
        exact cmp_from hLM hl d (j + 1) (by omega)
theorem cmp_lists {L M : List UInt8} (hLM : L.length = M.length) (hl : L.length ≤ 1000) : slices_Compare_195 L M = some (cv (ns L) (ns M)) := by
  have := cmp_from hLM hl L.length 0 (by omega)
  rw [List.drop_zero, List.drop_zero] at this
  exact this
theorem or3 (a b c : Int) : cmp_Or_194 [a, b, c] = some (if a ≠ 0 then a else if b ≠ 0 then b else c) := by
  unfold cmp_Or_194
  have e0 : cmp_Or_194_l1 [a, b, c] 0 = if a ≠ 0 then some (.ret a) else some (.next 1) := by
    unfold cmp_Or_194_l1
    by_cases h : a = 0
    · simp [gl, h]; rfl
    · simp [gl, h]
  have e1 : cmp_Or_194_l1 [a, b, c] 1 = if b ≠ 0 then some (.ret b) else some (.next 2) := by
    unfold cmp_Or_194_l1
    by_cases h : b = 0
    · simp [gl, h]; rfl
    · simp [gl, h]
  have e2 : cmp_Or_194_l1 [a, b, c] 2 = if c ≠ 0 then some (.ret c) else some (.next 3) := by
    unfold cmp_Or_194_l1
    by_cases h : c = 0
    · simp [gl, h]; rfl
    · simp [gl, h]
  have e3 : cmp_Or_194_l1 [a, b, c] 3 = some (.stop 3) := by
    unfold cmp_Or_194_l1
    rfl
  by_cases ha : a ≠ 0
  · rw [iter_ret (r := a) (by rw [e0, if_pos ha]), if_pos ha]; rfl
  · rw [iter_next (s' := 1) (by rw [e0, if_neg ha]), if_neg ha]
    by_cases hb : b ≠ 0
    · rw [iter_ret (r := b) (by rw [e1, if_pos hb]), if_pos hb]; rfl
    · rw [iter_next (s' := 2) (by rw [e1, if_neg hb]), if_neg hb]
      by_cases hc : c ≠ 0
      · rw [iter_ret (r := c) (by rw [e2, if_pos hc])]; rfl
      · rw [iter_next (s' := 3) (by rw [e2, if_neg hc]), iter_stop e3]
        simp only [Option.bind_some]
        congr 1
        omega
def kF (f : Form) : List Nat := ns f.toList
def key (q : Prod) : List Nat := kF q.1 ++ (kF q.2.1 ++ kF q.2.2)
theorem kF_len (f : Form) : (kF f).length = 9 := by simp [kF, ns]
theorem key_len (q : Prod) : (key q).length = 27 := by simp [key, kF_len]
theorem kF_inj {f g : Form} (h : kF f = kF g) : f = g := by
  unfold kF ns at h
  have := (List.map_inj_right (fun a b h => UInt8.toNat_inj.1 h)).1 h
  exact Vector.toList_inj.1 this
theorem key_inj {q r : Prod} (h : key q = key r) : q = r := by
  unfold key at h
  obtain ⟨h1, h2⟩ := List.append_inj h (by rw [kF_len, kF_len])
  obtain ⟨h3, h4⟩ := List.append_inj h2 (by rw [kF_len, kF_len])
  exact Prod.ext (kF_inj h1) (Prod.ext (kF_inj h3) (kF_inj h4))
theorem cmp_prods (q r : Prod) : impl_compareProducts q r = some (cv (key q) (key r)) := by
  have h : ∀ f g : Form, slices_Compare_195 f.toList g.toList = some (cv (kF f) (kF g)) := fun f g => cmp_lists (by simp) (by simp)
  unfold impl_compareProducts key
  rw [h, h, h]
  simp only [Option.bind_some]
  rw [or3, cv_app (by rw [kF_len, kF_len]), cv_app (by rw [kF_len, kF_len])]
  rfl
theorem lt_prods (q r : Prod) : ltOf (cfOf impl_compareProducts) q r = lx (key q) (key r) := by
  unfold ltOf cfOf
  rw [cmp_prods]
  exact cv_lt _ _
theorem cmp_good : Cmp impl_compareProducts := by
  refine ⟨fun x y => ⟨_, cmp_prods x y⟩, ⟨fun x => ?_, fun x y z => ?_, fun x y z => ?_⟩, fun x y => ?_⟩
  · rw [lt_prods]; exact lx_irrefl _
  · rw [lt_prods, lt_prods, lt_prods]; exact lx_trans
  · rw [lt_prods, lt_prods, lt_prods]; exact lx_ntrans (by rw [key_len, key_len]) (by rw [key_len, key_len])
  · rw [lt_prods, lt_prods]; exact fun h1 h2 => key_inj (lx_tot (by rw [key_len, key_len]) h1 h2)
theorem less4 (q r : Prod) (s2 : Int) (f g : Form) (h0 : 0 ≤ s2 ∧ s2 < 3) (hf : vg zForm (#v[q.1, q.2.1, q.2.2] : Forms) s2 = f) (hg : vg zForm (#v[r.1, r.2.1, r.2.2] : Forms) s2 = g) : ∀ (d j : Nat), j + d = 9 →
    iter (fun s => spec_l01Less_l4 q r s2 s) (j : Int) = some (if ns (f.toList.drop j) = ns (g.toList.drop j) then .stop 9 else .ret (lx (ns (f.toList.drop j)) (ns (g.toList.drop j))))
  | 0, j, hj => by
    have : j = 9 := by omega
    subst this
    rw [iter_stop (s' := 9) (by unfold spec_l01Less_l4; rfl), List.drop_of_length_le (by simp), List.drop_of_length_le (by simp), if_pos rfl]
  | d + 1, j, hj => by
    have hj9 : j < 9 := by omega
    have hb : spec_l01Less_l4 q r s2 (j : Int) = if f[j].toNat ≠ g[j].toNat then some (.ret (decide (f[j].toNat < g[j].toNat))) else some (.next ((j + 1 : Nat) : Int)) := by
      unfold spec_l01Less_l4
      rw [dtt (by omega), if_pos rfl, if_pos h0, if_pos ⟨by omega, by omega⟩, hf, hg, vg_nat hj9, vg_nat hj9, w64s (by omega)]
      by_cases h : f[j].toNat = g[j].toNat
      · simp [h]
      · have h2 : ¬ ((f[j].toNat : Nat) : Int) = ((g[j].toNat : Nat) : Int) := by omega
        simp only [ne_eq, h, h2, not_false_eq_true, decide_true, if_true, Int.ofNat_lt]
    have ef : f.toList.drop j = f[j] :: f.toList.drop (j + 1) := by
      rw [List.drop_eq_getElem_cons (by simpa using hj9)]
      simp
    have eg : g.toList.drop j = g[j] :: g.toList.drop (j + 1) := by
      rw [List.drop_eq_getElem_cons (by simpa using hj9)]
      simp
    rw [ef, eg]
    have en : ∀ (x : UInt8) (l : List UInt8), ns (x :: l) = x.toNat :: ns l := fun x l => rfl
    rw [en, en]
    by_cases h : f[j].toNat = g[j].toNat
    · rw [iter_next (s' := ((j + 1 : Nat) : Int)) (by rw [hb, if_neg (by simp [h])]), less4 q r s2 f g h0 hf hg d (j + 1) (by omega)]
      simp only [List.cons.injEq, h, true_and, lx, Nat.lt_irrefl, decide_false, decide_true, Bool.false_or, Bool.true_and]
    · rw [iter_ret (r := decide (f[j].toNat < g[j].toNat)) (by rw [hb, if_pos h])]
      simp only [List.cons.injEq, h, false_and, if_false, lx, decide_false, Bool.false_and, Bool.or_false]
theorem less4' (q r : Prod) (s2 : Int) (f g : Form) (h0 : 0 ≤ s2 ∧ s2 < 3) (hf : vg zForm (#v[q.1, q.2.1, q.2.2] : Forms) s2 = f) (hg : vg zForm (#v[r.1, r.2.1, r.2.2] : Forms) s2 = g) :
    iter (fun s => spec_l01Less_l4 q r s2 s) 0 = some (if kF f = kF g then .stop 9 else .ret (lx (kF f) (kF g))) := by
  have := less4 q r s2 f g h0 hf hg 9 0 (by omega)
  rw [List.drop_zero, List.drop_zero] at this
  exact this
theorem less_s (q r : Prod) : spec_l01Less q r = some (lx (key q) (key r)) := by
  unfold spec_l01Less key
  have b0 : spec_l01Less_l1 q r 0 = if kF q.1 = kF r.1 then some (.next 1) else some (.ret (lx (kF q.1) (kF r.1))) := by
    unfold spec_l01Less_l1
    rw [dtt (by omega), if_pos rfl, less4' q r 0 q.1 r.1 ⟨by omega, by omega⟩ rfl rfl]
    by_cases h : kF q.1 = kF r.1
    · rw [if_pos h, if_pos h]; rfl
    · rw [if_neg h, if_neg h]; rfl
  have b1 : spec_l01Less_l1 q r 1 = if kF q.2.1 = kF r.2.1 then some (.next 2) else some (.ret (lx (kF q.2.1) (kF r.2.1))) := by
    unfold spec_l01Less_l1
    rw [dtt (by omega), if_pos rfl, less4' q r 1 q.2.1 r.2.1 ⟨by omega, by omega⟩ rfl rfl]
    by_cases h : kF q.2.1 = kF r.2.1
    · rw [if_pos h, if_pos h]; rfl
    · rw [if_neg h, if_neg h]; rfl
  have b2 : spec_l01Less_l1 q r 2 = if kF q.2.2 = kF r.2.2 then some (.next 3) else some (.ret (lx (kF q.2.2) (kF r.2.2))) := by
    unfold spec_l01Less_l1
    rw [dtt (by omega), if_pos rfl, less4' q r 2 q.2.2 r.2.2 ⟨by omega, by omega⟩ rfl rfl]
    by_cases h : kF q.2.2 = kF r.2.2
    · rw [if_pos h, if_pos h]; rfl
    · rw [if_neg h, if_neg h]; rfl
  have b3 : spec_l01Less_l1 q r 3 = some (.stop 3) := by
    unfold spec_l01Less_l1
    rfl
  rw [lx_app (by rw [kF_len, kF_len]), lx_app (by rw [kF_len, kF_len])]
  by_cases h1 : kF q.1 = kF r.1
  · rw [iter_next (s' := 1) (by rw [b0, if_pos h1])]
    by_cases h2 : kF q.2.1 = kF r.2.1
    · rw [iter_next (s' := 2) (by rw [b1, if_pos h2])]
      by_cases h3 : kF q.2.2 = kF r.2.2
      · rw [iter_next (s' := 3) (by rw [b2, if_pos h3]), iter_stop b3]
        simp [h1, h2, h3, lx_irrefl]
      · rw [iter_ret (r := lx (kF q.2.2) (kF r.2.2)) (by rw [b2, if_neg h3])]
        simp [h1, h2, lx_irrefl]
    · rw [iter_ret (r := lx (kF q.2.1) (kF r.2.1)) (by rw [b1, if_neg h2])]
      simp [h1, h2, lx_irrefl]
  · rw [iter_ret (r := lx (kF q.1) (kF r.1)) (by rw [b0, if_neg h1])]
    simp [h1]
end Go.Proofs.YtB
