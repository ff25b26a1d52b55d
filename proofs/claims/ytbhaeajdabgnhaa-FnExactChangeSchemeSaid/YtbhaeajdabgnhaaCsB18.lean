/- Words of this seat's own: grids handed out, handed in and turned by a call. -/
import Derived.Test.YtbhaeajdabgnhaaCsB17
set_option linter.unusedVariables false
set_option linter.unusedSimpArgs false
set_option linter.unusedSectionVars false
namespace Go.Proofs.YtB
open Go Go.RowKit
open Go.Proofs.YtbhaeajdabgnhaaW.PrintWords
variable {P : Program} {n : Nat} {a : Act} {L : List (Nat × Value)} {w w' w0 ws : World} {Q : Exit → Act → World → Prop} {ops : Array Oper} {rest : List Oper} {o : Oper}
variable {x y : Operand} {p q : Int} {T T' ty : TypeId} {pos : String} {af : Array Edge} {gd : Option (Nat × Bool)} {dd : Option Tmp} {ad : Addr} {k : Nat} {cs : List Value} {m : Nat}
variable {ρ ρ' ρ0 : Nat → Nat} {i j g e e' B : Nat} {α β : Type} {xs ys : List α} {v u : Value}
variable {d : Fl α} {f f' : Nat → V1} {idx : List Nat} {rows : List (List α)}
/-- a literal of one row -/
def Gl (e : Nat) (ρ : Nat → Nat) (w : World) (B i : Nat) (v u : Value) : Prop := ∃ hu : u.oneCell' = true, Ow (kf (fRef fun _ => ⟨u, hu⟩)) e ρ w B i v [0]
theorem Gl.ext (h : Gl e ρ w B i v u) (hE : Ext ρ w ρ' w') : Gl e ρ' w' B i v u := ⟨h.1, h.2.ext hE⟩
theorem Gl.adv (h : Gl e ρ w B i v u) (hA : Adv j ρ w ρ' w') (hne : i ≠ j) : Gl e ρ' w' B i v u := ⟨h.1, h.2.adv hA hne⟩
theorem Gl.tr (h : Gl e ρ w B i v u) (hT : Tr i ρ w ρ' w') : Gl e ρ' w' B i v u := ⟨h.1, h.2.tr hT⟩
theorem r_glit {bytes : Nat} {z : Value} {o1 : Operand} {d : Kd α} (i : Nat) (hT : P.underlying T = some (.slice e)) (he : El P e 1 bytes z) (hw : Wd w0 ρ w) (hf : Fr n a L) (hx : ev L o1 = some u) (hu : Ow d e' ρ w B j u xs) :
    ∃ v w', (execOp a.eval ⟨dd, .buildSlice T 1 #[(0, o1)], ty, pos, af, gd⟩).run P w = .ok (.value v) w' ∧ ∃ ρ', Wd w0 ρ' w' ∧ Ext ρ w ρ' w' ∧ Gl e ρ' w' w0.heap.size i v u := by
  have h1 : u.oneCell' = true := hu.one
  obtain ⟨v, w', h2, ρ', h3, h4, h5⟩ := r_lit (dd := dd) (ty := ty) (pos := pos) (af := af) (gd := gd) (l := [(0, o1)]) (d := fRef fun _ => ⟨u, h1⟩) (xs := [0]) (vs := [u]) i hT he (Nat.le_of_ble_eq_true rfl) (Nat.le_of_ble_eq_true rfl) hw hf (by simp [hx]) rfl (by simp [fRef, hu.ro.cells1])
  exact ⟨v, w', h2, ρ', h3, h4, h1, h5⟩
/-- append(grid, []T{row}) -/
theorem r_gapp' {lv : Value} {bytes c : Nat} {z : Value} (hT : P.underlying T = some (.slice e)) (he : El P e 1 bytes z) (hw : Wd w0 ρ w) (hj0 : j ≠ 0) (hij : i ≠ j) (hlj : ∀ r, lab i r ≠ j)
    (hG : Gd d e' e ρ w w0.heap.size i v f idx rows) (hL : Gl e ρ w w0.heap.size c lv u) (hj : Ow (kf d) e' ρ w w0.heap.size j u xs)
    (hl : (idx.length + 1) * bytes ≤ 140737488355328) (hf : Fr n a L) (hx : ev L x = some v) (hy : ev L y = some lv) :
    ∃ v1 w1, (execOp a.eval ⟨dd, .call ⟨.builtin .append, #[x, y], #[T, T]⟩, ty, pos, af, gd⟩).run P w = .ok (.value v1) w1 ∧ ∃ f' ρ', Wd w0 ρ' w1 ∧ (∀ b, b ≠ i → b ≠ j → Tr b ρ w ρ' w1) ∧
      Gd d e' e ρ' w1 w0.heap.size i v1 f' (idx ++ [rows.length]) (rows ++ [xs]) ∧ (∀ r, r < rows.length → (f r).1 = (f' r).1) ∧ u = (f' rows.length).1 :=
  r_gapp hT he hw hj0 hij hlj hG hL.2 hj hl hf hx hy
theorem Gd.put_row {r : Nat} (hG : Gd d e' e ρ w B i v f idx rows) (hr : r < rows.length) (hA : Adv (lab i r) ρ w ρ' w') (h5 : Ow (kf d) e' ρ' w' B (lab i r) (f r).1 xs) : Gd d e' e ρ' w' B i v f idx (rows.set r xs) := by
  refine ⟨hG.out.adv hA (Ne.symm (lab_ne hG.small.2 r)), fun t ys ht => ?_, fun y hy => by rw [List.length_set]; exact hG.lt y hy, hG.small⟩
  by_cases htr : r = t
  · subst htr
    rw [List.getElem?_set_self hr] at ht
    injection ht with ht
    subst ht
    exact h5
  · rw [List.getElem?_set_ne htr] at ht
    exact (hG.row t ys ht).adv hA (by unfold lab; omega)

/-- the labels anew: row idx[j] is row j; what is none of them is the outer's -/
def norm (ρ : Nat → Nat) (i : Nat) (idx : List Nat) (c : Nat) : Nat → Nat := fun k => if ρ k = i then c else if 1000 ≤ ρ k ∧ ρ k % 1000 = i then (if ρ k / 1000 - 1 ∈ idx then lab c (idx.idxOf (ρ k / 1000 - 1)) else c) else ρ k
theorem norm_i {c : Nat} (h : ρ k = i) : norm ρ i idx c k = c := by simp [norm, h]
theorem lab_div (hi : i < 1000) (r : Nat) : lab i r / 1000 - 1 = r := by unfold lab; omega
theorem lab_mod (hi : i < 1000) (r : Nat) : lab i r % 1000 = i := by unfold lab; omega
theorem lab_ge (r : Nat) : 1000 ≤ lab i r := by unfold lab; omega
theorem norm_row {r c : Nat} (hi : i < 1000) (h : ρ k = lab i r) (hr : r ∈ idx) : norm ρ i idx c k = lab c (idx.idxOf r) := by
  unfold norm
  rw [if_neg (by rw [h]; exact lab_ne hi r), h, lab_div hi, lab_mod hi, if_pos ⟨lab_ge r, rfl⟩, if_pos hr]
theorem norm_far {c b : Nat} (h : ρ k = b) (h1 : b ≠ i) (h2 : ∀ r, b ≠ lab i r) (hi : i < 1000) : norm ρ i idx c k = b := by
  unfold norm
  rw [h, if_neg h1, if_neg]
  rintro ⟨h3, h4⟩
  apply h2 (b / 1000 - 1)
  unfold lab
  omega
theorem Gd.norm_at (hG : Gd d e' e ρ w B i v f idx rows) (hn : idx.Nodup) {c : Nat} (hc : 0 < c ∧ c < 1000) {ρ' : Nat → Nat} (hρ : ∀ k, B ≤ k → k < w.heap.size → ρ' k = norm ρ i idx c k) :
    Gd d e' e ρ' w B c v (fun j => f (idx.getD j 0)) (List.range idx.length) (gi idx rows) := by
  refine ⟨?_, fun j xs hj => ?_, fun r hr => by rw [gi_len]; exact List.mem_range.1 hr, hc⟩
  · have h1 : Ow (kf (fRef f)) e ρ' w B c v idx := Kd.R_mono (Kd.R_bound hG.out) (fun k hk => by rw [hρ k hk.2.1 hk.2.2.1]; exact norm_i hk.1)
    refine h1.recode ?_
    apply List.ext_getElem?
    intro j
    simp only [List.getElem?_map]
    rcases Nat.lt_or_ge j idx.length with hj | hj
    · rw [List.getElem?_range hj, List.getElem?_eq_getElem hj]
      simp [List.getD_eq_getElem?_getD, List.getElem?_eq_getElem hj]
    · rw [List.getElem?_eq_none hj, List.getElem?_eq_none (l := List.range idx.length) (by simpa using hj)]
      rfl
  · simp only [gi, List.getElem?_map, Option.map_eq_some_iff] at hj
    obtain ⟨r, hr, rfl⟩ := hj
    have hjl : j < idx.length := (List.getElem?_eq_some_iff.1 hr).1
    have hmem := List.mem_of_getElem? hr
    have hrow := hG.rowAt (hG.lt r hmem)
    have e1 : idx.getD j 0 = r := by rw [List.getD_eq_getElem?_getD, hr]; rfl
    have e2 : idx.idxOf r = j := by
      have := (List.getElem?_eq_some_iff.1 hr).2
      rw [← this]
      exact hn.idxOf_getElem j hjl
    rw [e1]
    refine Kd.R_mono (Kd.R_bound hrow) (fun k hk => ?_)
    rw [hρ k hk.2.1 hk.2.2.1, norm_row hG.small.2 hk.1 hmem, e2]
theorem Wd.norm (hw : Wd w0 ρ w) (hi : i ≠ 0) (idx : List Nat) (c : Nat) : Wd w0 (norm ρ i idx c) w := ⟨hw.below, fun k hk => by
  refine hw.own k (fun h0 => hk ?_)
  unfold YtB.norm
  rw [if_neg (by omega), if_neg (by omega)]
  exact h0⟩
theorem Tr.norm {b : Nat} (hb : b ≠ i) (hl : ∀ r, b ≠ lab i r) (hi : i < 1000) (idx : List Nat) (c : Nat) : Tr b ρ w (norm ρ i idx c) w := fun k hk h => ⟨norm_far h hb hl hi, rfl⟩
/-- a grid brought in order, in place -/
theorem Gd.sort (hG : Gd d e' e ρ w w0.heap.size i v f idx rows) (hw : Wd w0 ρ w) (hn : idx.Nodup) : ∃ f' ρ', Wd w0 ρ' w ∧ (∀ b, b ≠ i → (∀ r, b ≠ lab i r) → Tr b ρ w ρ' w) ∧ Gd d e' e ρ' w w0.heap.size i v f' (List.range (gi idx rows).length) (gi idx rows) := by
  have hs := hG.small
  have hN := hG.norm_at hn hs (ρ' := YtB.norm ρ i idx i) (fun k _ _ => rfl)
  rw [← gi_len (idx := idx) (rows := rows)] at hN
  exact ⟨_, _, hw.norm (by omega) idx i, fun b h1 h2 => Tr.norm h1 h2 hs.2 idx i, hN⟩
/-- the call's answer: a grid that it made, in order -/
def GFresh (d : Fl α) (e' e : Nat) (w0 w : World) (v : Value) (rows : List (List α)) : Prop := ∃ i f ρ idx rows', rows = gi idx rows' ∧ idx.Nodup ∧ Gd d e' e ρ w w0.heap.size i v f idx rows'
theorem Gd.gout (hG : Gd d e' e ρ w w0.heap.size i v f idx rows) (hn : idx.Nodup) : GFresh d e' e w0 w v (gi idx rows) := ⟨i, f, ρ, idx, rows, rfl, hn, hG⟩
theorem GFresh.own (h : GFresh d e' e w w' v rows) (hw : Wd w0 ρ w) (hb : Below w.heap.size w w') (K : Nat) (hK : 0 < K ∧ K < 1000) :
    ∃ f ρ', Wd w0 ρ' w' ∧ Ext ρ w ρ' w' ∧ Gd d e' e ρ' w' w0.heap.size K v f (List.range rows.length) rows := by
  obtain ⟨i, f, ρ1, idx, rows', rfl, hn, hG⟩ := h
  let ρ2 : Nat → Nat := fun k => if k < w.heap.size then ρ k else if norm ρ1 i idx K k = 0 then K else norm ρ1 i idx K k
  have hG2 : Gd d e' e (norm ρ1 i idx K) w' w.heap.size K v (fun j => f (idx.getD j 0)) (List.range idx.length) (gi idx rows') := hG.norm_at hn hK (fun k _ _ => rfl)
  have key : ∀ {γ : Type} {dd : Kd γ} {ee l : Nat} {vv : Value} {zs : List γ}, l ≠ 0 → Ow dd ee (norm ρ1 i idx K) w' w.heap.size l vv zs → Ow dd ee ρ2 w' w0.heap.size l vv zs := by
    intro γ dd ee l vv zs hl h
    refine Kd.R_lower (Kd.R_mono (Kd.R_bound h) (fun k hk => ?_)) hw.below.size
    simp only [ρ2]
    rw [if_neg (by have := hk.2.1; omega), if_neg (by rw [hk.1]; exact hl)]
    exact hk.1
  refine ⟨fun j => f (idx.getD j 0), ρ2, ⟨hw.below.trans (hb.mono hw.below.size), fun k hk => ?_⟩, ⟨hb, fun k hk => by simp [ρ2, hk]⟩, ?_⟩
  · rcases Nat.lt_or_ge k w.heap.size with h | h
    · refine hw.own k (fun h0 => hk ?_)
      simp [ρ2, h, h0]
    · exact Nat.le_trans hw.below.size h
  · rw [gi_len]
    exact ⟨key (by omega) hG2.out, fun r xs hr => key (by unfold lab; omega) (hG2.row r xs hr), hG2.lt, hK⟩

def gOf (ρ0 : Nat → Nat) (i : Nat) : Nat → Nat := fun k => if ρ0 k = i then 1 else if 1000 ≤ ρ0 k ∧ ρ0 k % 1000 = i then 1000 * (ρ0 k / 1000) + 1 else 0
/-- labels of a callee, back in the caller's -/
def bk (i x : Nat) : Nat := if 1000 ≤ x ∧ x % 1000 = 1 then 1000 * (x / 1000) + i else i
theorem gOf_row {r : Nat} (hi : i < 1000) (h : ρ0 k = lab i r) : gOf ρ0 i k = lab 1 r := by
  unfold gOf
  rw [if_neg (by rw [h]; exact lab_ne hi r), h, if_pos ⟨lab_ge r, lab_mod hi r⟩]
  unfold lab
  omega
/-- what i's grid may have turned -/
structure AdvG (i : Nat) (ρ : Nat → Nat) (w : World) (ρ' : Nat → Nat) (w' : World) : Prop where
  size : w.heap.size ≤ w'.heap.size
  rho : ∀ k, k < w.heap.size → ρ' k = ρ k
  blk : ∀ k, k < w.heap.size → ρ k ≠ i → (∀ r, ρ k ≠ lab i r) → w'.heap[k]? = w.heap[k]?
theorem AdvG.tr (h : AdvG i ρ w ρ' w') (b : Nat) (h1 : b ≠ i) (h2 : ∀ r, b ≠ lab i r) : Tr b ρ w ρ' w' := fun k hk hb => ⟨(h.rho k hk).trans hb, h.blk k hk (by rw [hb]; exact h1) (fun r => by rw [hb]; exact h2 r)⟩
theorem c_startg {c : Code} (hW : Wd w0 ρ0 ws) (ho : Gd d e' e ρ0 ws w0.heap.size i v f idx rows) (h : ∀ w ρ, Wd w0 ρ w → Old (gOf ρ0 i) ws ρ w → Gd d e' e ρ w w0.heap.size 1 v f idx rows → c.wp P Q a w) : c.wp P Q a ws := by
  have hs := ho.small
  refine h ws (gOf ρ0 i) ⟨hW.below, fun k hk => ?_⟩ ⟨Nat.le_refl _, fun _ _ => rfl, fun _ _ _ => rfl⟩ ⟨Kd.R_mono ho.out fun k hk => by simp [gOf, hk], fun r xs hr => Kd.R_mono (ho.row r xs hr) fun k hk => gOf_row hs.2 hk, ho.lt, by omega⟩
  refine hW.own k (fun h0 => hk ?_)
  unfold gOf
  rw [if_neg (by omega), if_neg (by omega)]
def outG (ρ0 ρ : Nat → Nat) (ws : World) (i : Nat) : Nat → Nat := fun k => if k < ws.heap.size then ρ0 k else bk i (ρ k)
theorem g_wd (hW : Wd w0 ρ0 ws) (hw : Wd w0 ρ w) (hO : Old (gOf ρ0 i) ws ρ w) : Wd w0 (outG ρ0 ρ ws i) w := by
  refine ⟨hw.below, fun k hk => ?_⟩
  rcases Nat.lt_or_ge k ws.heap.size with h | h
  · simp only [outG, h, if_true] at hk; exact hW.own k hk
  · exact Nat.le_trans hW.below.size h
theorem g_adv (hO : Old (gOf ρ0 i) ws ρ w) (hi : i < 1000) : AdvG i ρ0 ws (outG ρ0 ρ ws i) w :=
  ⟨hO.size, fun k hk => by simp [outG, hk], fun k hk h1 h2 => hO.blk k hk (by
    unfold gOf
    rw [if_neg h1, if_neg]
    rintro ⟨h3, h4⟩
    apply h2 (ρ0 k / 1000 - 1)
    unfold lab
    omega)⟩
theorem g_gd (hO : Old (gOf ρ0 i) ws ρ w) (hi : 0 < i ∧ i < 1000) (ho : Gd d e' e ρ w w0.heap.size 1 v f idx rows) : Gd d e' e (outG ρ0 ρ ws i) w w0.heap.size i v f idx rows := by
  refine ⟨Kd.R_mono ho.out fun k hk => ?_, fun r xs hr => Kd.R_mono (ho.row r xs hr) fun k hk => ?_, ho.lt, hi⟩
  · rcases Nat.lt_or_ge k ws.heap.size with h | h
    · simp only [outG, h, if_true]
      have h1 := hO.rho k h
      rw [hk] at h1
      unfold gOf at h1
      split at h1
      · assumption
      · split at h1 <;> omega
    · simp only [outG, Nat.not_lt.2 h, if_false, hk, bk]
      simp
  · rcases Nat.lt_or_ge k ws.heap.size with h | h
    · simp only [outG, h, if_true]
      have h1 := hO.rho k h
      rw [hk] at h1
      unfold gOf at h1
      split at h1
      · unfold lab at h1; omega
      · split at h1 <;> unfold lab at * <;> omega
    · simp only [outG, Nat.not_lt.2 h, if_false, hk, bk]
      rw [if_pos ⟨lab_ge r, lab_mod (by omega) r⟩]
      unfold lab
      omega
theorem st_gmfn {dt : Nat} {f : FuncId} {args : Array Value} {Φ : (Nat → Nat) → Value → World → Prop} (hf : Fr n a L) (hg : o.guard = none) (hd : o.dst = some dt) (hn : dt < n) (hr : (execOp a.eval o).run P w = .ok (.enter f args) w)
    (hc : Calls P f args w fun e w' => ∃ v, e = .returned v ∧ ∃ ρ', Wd w0 ρ' w' ∧ AdvG i ρ w ρ' w' ∧ Φ ρ' v w')
    (h : ∀ a' v w' ρ', Fr n a' ((dt, v) :: L) → Wd w0 ρ' w' → AdvG i ρ w ρ' w' → Φ ρ' v w' → wpList P ops Q rest a' w') : wpList P ops Q (o :: rest) a w :=
  st_call (Φ := fun v w' => ∃ ρ', Wd w0 ρ' w' ∧ AdvG i ρ w ρ' w' ∧ Φ ρ' v w') hf hg hd hn hr hc fun a' v w' hf' ⟨ρ', h1, h2, h3⟩ => h a' v w' ρ' hf' h1 h2 h3
theorem st_fnr {dt : Nat} {f : FuncId} {args : Array Value} {Φ : Value → World → Prop} (hf : Fr n a L) (hr : (execOp a.eval o).run P w = .ok (.enter f args) w)
    (hc : Calls P f args w fun e w' => ∃ v, e = .returned v ∧ Below w.heap.size w w' ∧ Φ v w')
    (h : ∀ a' v w', Fr n a' ((dt, v) :: L) → Below w.heap.size w w' → Φ v w' → wpList P ops Q rest a' w') (hg : o.guard = none := by rfl) (hd : o.dst = some dt := by rfl) (hn : dt < n := by decide) : wpList P ops Q (o :: rest) a w :=
  st_call (Φ := fun v w' => Below w.heap.size w w' ∧ Φ v w') hf hg hd hn hr hc fun a' v w' hf' ⟨h1, h2⟩ => h a' v w' hf' h1 h2
/-- an object takes another's label: the two are one from now on -/
theorem Old.relab {r1 : Nat → Nat} (h : Old r1 ws ρ w) (hj : ∀ k, k < ws.heap.size → r1 k ≠ j) (b : Nat) : Old r1 ws (relab ρ j b) w :=
  ⟨h.size, fun k hk => by unfold YtB.relab; rw [h.rho k hk, if_neg (hj k hk)], h.blk⟩
end Go.Proofs.YtB
