/- Words of this seat's own: a slice whose elements are rows of the call's own that are turned in place: the outer slice holds references, each row is an own slice with a label of its own. -/
import Derived.Test.YtbhaeajdabgnhaaCsB15
set_option linter.unusedVariables false
set_option linter.unusedSimpArgs false
set_option linter.unusedSectionVars false
namespace Go.Proofs.YtB
open Go Go.RowKit
open Go.Proofs.YtbhaeajdabgnhaaW.PrintWords
variable {P : Program} {n : Nat} {a : Act} {L : List (Nat × Value)} {w w' w0 ws : World} {Q : Exit → Act → World → Prop} {ops : Array Oper} {rest : List Oper} {o : Oper}
variable {x y : Operand} {p q : Int} {T T' ty : TypeId} {pos : String} {af : Array Edge} {gd : Option (Nat × Bool)} {dd : Option Tmp} {ad : Addr} {k : Nat} {cs : List Value} {m : Nat}
variable {ρ ρ' ρ0 : Nat → Nat} {i j g e e' B : Nat} {α β : Type} {xs ys : List α} {v u : Value}
abbrev V1 := {v : Value // v.oneCell' = true}
def fRef (f : Nat → V1) : Fl Nat := ⟨1, fun r => [(f r).1], fun _ => rfl, fun r u hu => by rw [List.mem_singleton.1 hu]; exact (f r).2⟩
/-- the label of row r of the grid i -/
def lab (i r : Nat) : Nat := 1000 * (r + 1) + i
structure Gd (d : Fl α) (e' e : Nat) (ρ : Nat → Nat) (w : World) (B i : Nat) (v : Value) (f : Nat → V1) (idx : List Nat) (rows : List (List α)) : Prop where
  out : Ow (kf (fRef f)) e ρ w B i v idx
  row : ∀ r xs, rows[r]? = some xs → Ow (kf d) e' ρ w B (lab i r) (f r).1 xs
  lt : ∀ r, r ∈ idx → r < rows.length
  small : 0 < i ∧ i < 1000
/-- the rows as the slice reads -/
def gi (idx : List Nat) (rows : List (List α)) : List (List α) := idx.map fun r => rows.getD r []
variable {d : Fl α} {f f' : Nat → V1} {idx : List Nat} {rows : List (List α)}
theorem gi_len : (gi idx rows).length = idx.length := by simp [gi]
theorem getD_some {r : Nat} (h : r < rows.length) : rows[r]? = some (rows.getD r []) := by
  rw [List.getD_eq_getElem?_getD, List.getElem?_eq_getElem h]; rfl
theorem Gd.rowAt (h : Gd d e' e ρ w B i v f idx rows) {r : Nat} (hr : r < rows.length) : Ow (kf d) e' ρ w B (lab i r) (f r).1 (rows.getD r []) := h.row r _ (getD_some hr)
theorem Ow.one {d : Kd α} (h : Ow d e ρ w B i v xs) : v.oneCell' = true := h.ro.one
theorem lab_ne (h : i < 1000) (r : Nat) : lab i r ≠ i := by unfold lab; omega
theorem Gd.adv (h : Gd d e' e ρ w B i v f idx rows) (hA : Adv j ρ w ρ' w') (h1 : i ≠ j) (h2 : ∀ r, lab i r ≠ j) : Gd d e' e ρ' w' B i v f idx rows :=
  ⟨h.out.adv hA h1, fun r xs hr => (h.row r xs hr).adv hA (h2 r), h.lt, h.small⟩
theorem Gd.ext (h : Gd d e' e ρ w B i v f idx rows) (hE : Ext ρ w ρ' w') : Gd d e' e ρ' w' B i v f idx rows :=
  ⟨h.out.ext hE, fun r xs hr => (h.row r xs hr).ext hE, h.lt, h.small⟩
theorem Gd.tr (h : Gd d e' e ρ w B i v f idx rows) (h1 : Tr i ρ w ρ' w') (h2 : ∀ r, Tr (lab i r) ρ w ρ' w') : Gd d e' e ρ' w' B i v f idx rows :=
  ⟨h.out.tr h1, fun r xs hr => (h.row r xs hr).tr (h2 r), h.lt, h.small⟩
theorem Gd.ro (h : Gd d e' e ρ w B i v f idx rows) : Ro (Kd.slice e' (kf d)) w v (gi idx rows) := by
  obtain ⟨A, c, hv, hc, hC⟩ := h.out.ro
  refine ⟨A, c, by rw [gi_len]; exact hv, by rw [gi_len]; exact hc, rfl, by rw [gi_len]; exact hC.2.1, fun hn => ?_⟩
  obtain ⟨ad, hA, hel⟩ := hC.2.2 (by rwa [gi_len] at hn)
  refine ⟨ad, hA, fun j p hj => ?_⟩
  simp only [gi, List.getElem?_map, Option.map_eq_some_iff] at hj
  obtain ⟨r, hr, rfl⟩ := hj
  obtain ⟨c', h1, h2, h3⟩ := hel j r hr
  have h2' : c' = [(f r).1] := h2
  subst h2'
  have hrl := h.lt r (List.mem_of_getElem? hr)
  obtain ⟨A', c'', hu, hl, hC'⟩ := (h.rowAt hrl).ro
  exact ⟨_, rfl, ⟨A', c'', by rw [hu], hl, hC'⟩, h3⟩
theorem Gd.fresh (h : Gd d e' e ρ w w0.heap.size i v f idx rows) : Fresh (Kd.slice e' (kf d)) e w0 w v (gi idx rows) := by
  obtain ⟨hown, inner, ho, hr⟩ := h.out
  refine ⟨fun _ _ => trivial, inner, by rw [gi_len]; exact ho, by rw [gi_len]; exact hr.1, fun j p hj => ?_⟩
  simp only [gi, List.getElem?_map, Option.map_eq_some_iff] at hj
  obtain ⟨r, hr', rfl⟩ := hj
  have h2 : (inner.drop (j * 1)).take 1 = [(f r).1] := hr.2 j r hr'
  have hrl := h.lt r (List.mem_of_getElem? hr')
  refine ⟨(f r).1, h2, Kd.R_mono (h.rowAt hrl) (fun k hk => ⟨trivial, fun he => ?_⟩)⟩
  have h7 : ρ k = i := hown k he.symm
  exact lab_ne h.small.2 r (hk.symm.trans h7)
theorem Gd.empty {dd : Kd β} (h : Ow dd e ρ w B i v []) (hs : dd.sz = 1) (hi : 0 < i ∧ i < 1000) (f : Nat → V1) : Gd d e' e ρ w B i v f [] [] := by
  refine ⟨⟨h.1, ?_⟩, fun r xs hr => by simp at hr, fun r hr => by simp at hr, hi⟩
  obtain ⟨inner, ho, hr⟩ := h.2
  have hin : inner = [] := by have := hr.1; simpa using this
  subst hin
  refine ⟨[], ?_, rfl, fun j p hj => by simp at hj⟩
  show World.ownsRow w B e 1 v _ _
  rw [← hs]
  exact ho
/-- the same cells, told by another code -/
theorem Ow.recode {f f' : Nat → V1} (h : Ow (kf (fRef f)) e ρ w B i v idx) {idx' : List Nat} (he : idx.map (fun r => (f r).1) = idx'.map fun r => (f' r).1) : Ow (kf (fRef f')) e ρ w B i v idx' := by
  have hl : idx.length = idx'.length := by have := congrArg List.length he; simpa using this
  obtain ⟨hown, inner, ho, hr⟩ := h
  refine ⟨hown, inner, by rw [← hl]; exact ho, by rw [← hl]; exact hr.1, fun j p hj => ?_⟩
  have h1 := congrArg (fun l => l[j]?) he
  simp only [List.getElem?_map, hj, Option.map_some] at h1
  obtain ⟨r, hr', h2⟩ := Option.map_eq_some_iff.1 h1
  have h3 : (inner.drop (j * 1)).take 1 = [(f r).1] := hr.2 j r hr'
  show (inner.drop (j * 1)).take 1 = [(f' p).1]
  rw [h3, h2]
def upd (f : Nat → V1) (n : Nat) (u : V1) : Nat → V1 := fun r => if r = n then u else f r
theorem upd_old {u : V1} {r n : Nat} (h : r < n) : upd f n u r = f r := by unfold upd; rw [if_neg (by omega)]
theorem upd_new {u : V1} {n : Nat} : upd f n u n = u := by unfold upd; rw [if_pos rfl]
/-- the label j is b's from now on -/
def relab (ρ : Nat → Nat) (j b : Nat) : Nat → Nat := fun k => if ρ k = j then b else ρ k
theorem Wd.relab (hw : Wd w0 ρ w) (hj : j ≠ 0) (b : Nat) : Wd w0 (relab ρ j b) w := ⟨hw.below, fun k hk => by
  refine hw.own k (fun h0 => hk ?_)
  unfold YtB.relab
  rw [if_neg (by rw [h0]; exact Ne.symm hj)]
  exact h0⟩
theorem Tr.relab {b c : Nat} (hc : c ≠ j) : Tr c ρ w (relab ρ j b) w := fun k hk h => ⟨by unfold YtB.relab; rw [if_neg (by rw [h]; exact hc)]; exact h, rfl⟩
theorem Ow.relab {d : Kd α} (h : Ow d e ρ w B j v xs) (b : Nat) : Ow d e (relab ρ j b) w B b v xs := Kd.R_mono h (fun k hk => by unfold YtB.relab; rw [if_pos hk])
theorem Tr.of_adv {b : Nat} (hA : Adv i ρ w ρ' w') (hb : b ≠ i) : Tr b ρ w ρ' w' := fun k hk h => ⟨(hA.rho k hk).trans h, hA.blk k hk (by rw [h]; exact hb)⟩
theorem Tr.trans {b : Nat} {ρ2 : Nat → Nat} {w2 : World} (hs : w.heap.size ≤ w'.heap.size) (h1 : Tr b ρ w ρ' w') (h2 : Tr b ρ' w' ρ2 w2) : Tr b ρ w ρ2 w2 := fun k hk h => by
  obtain ⟨a1, a2⟩ := h1 k hk h
  obtain ⟨b1, b2⟩ := h2 k (Nat.lt_of_lt_of_le hk hs) a1
  exact ⟨b1, b2.trans a2⟩
/-- a row of the call's own (j's) becomes a row of the grid -/
theorem Gd.take_in (hrow : ∀ r xs, rows[r]? = some xs → Ow (kf d) e' ρ w B (lab i r) (f r).1 xs) (hs : 0 < i ∧ i < 1000) (hj : Ow (kf d) e' ρ w B j u xs) (hij : i ≠ j) (hlj : ∀ r, lab i r ≠ j) {v' : Value} {idx' : List Nat} {hu : u.oneCell' = true}
    (hO : Ow (kf (fRef (upd f rows.length ⟨u, hu⟩))) e ρ w B i v' idx') (hlt : ∀ r, r ∈ idx' → r < rows.length + 1) :
    Gd d e' e (relab ρ j (lab i rows.length)) w B i v' (upd f rows.length ⟨u, hu⟩) idx' (rows ++ [xs]) := by
  refine ⟨hO.tr (Tr.relab hij), fun r ys hr => ?_, fun r hr => by rw [List.length_append]; exact hlt r hr, hs⟩
  rcases Nat.lt_trichotomy r rows.length with h | h | h
  · rw [List.getElem?_append_left h] at hr
    rw [upd_old h]
    exact (hrow r ys hr).tr (Tr.relab (hlj r))
  · subst h
    have : xs = ys := by simpa using hr
    subst this
    rw [upd_new]
    exact hj.relab _
  · rw [List.getElem?_eq_none (by simp; omega)] at hr
    cases hr
theorem recode_upd (hG : Gd d e' e ρ w B i v f idx rows) {u : V1} : Ow (kf (fRef (upd f rows.length u))) e ρ w B i v idx :=
  hG.out.recode (List.map_congr_left fun r hr => by rw [upd_old (hG.lt r hr)])
theorem Gd.rows_adv (hG : Gd d e' e ρ w B i v f idx rows) (hA : Adv i ρ w ρ' w') : ∀ r xs, rows[r]? = some xs → Ow (kf d) e' ρ' w' B (lab i r) (f r).1 xs :=
  fun r xs hr => (hG.row r xs hr).adv hA (lab_ne hG.small.2 r)
/-- append(grid, []T{row}): the literal is lv -/
theorem r_gapp {lv : Value} {bytes c : Nat} {z : Value} {hu : u.oneCell' = true} (hT : P.underlying T = some (.slice e)) (he : El P e 1 bytes z) (hw : Wd w0 ρ w) (hj0 : j ≠ 0) (hij : i ≠ j) (hlj : ∀ r, lab i r ≠ j)
    (hG : Gd d e' e ρ w w0.heap.size i v f idx rows) (hL : Ow (kf (fRef fun _ => ⟨u, hu⟩)) e ρ w w0.heap.size c lv [0]) (hj : Ow (kf d) e' ρ w w0.heap.size j u xs)
    (hl : (idx.length + 1) * bytes ≤ 140737488355328) (hf : Fr n a L) (hx : ev L x = some v) (hy : ev L y = some lv) :
    ∃ v1 w1, (execOp a.eval ⟨dd, .call ⟨.builtin .append, #[x, y], #[T, T]⟩, ty, pos, af, gd⟩).run P w = .ok (.value v1) w1 ∧ ∃ f' ρ', Wd w0 ρ' w1 ∧ (∀ b, b ≠ i → b ≠ j → Tr b ρ w ρ' w1) ∧
      Gd d e' e ρ' w1 w0.heap.size i v1 f' (idx ++ [rows.length]) (rows ++ [xs]) ∧ (∀ r, r < rows.length → (f r).1 = (f' r).1) ∧ u = (f' rows.length).1 := by
  have hO := recode_upd hG (u := ⟨u, hu⟩)
  have hLr : Ro (kf (fRef (upd f rows.length ⟨u, hu⟩))) w lv [rows.length] := (hL.recode (f' := upd f rows.length ⟨u, hu⟩) (idx' := [rows.length]) (by simp [upd_new])).ro
  obtain ⟨v1, w1, hr, ρ1, h1, h2, h3⟩ := r_append (dd := dd) (ty := ty) (pos := pos) (af := af) (gd := gd) (d := fRef (upd f rows.length ⟨u, hu⟩)) hT he hw (by have := hG.small; omega) hO hLr (by simpa using hl) hf hx hy
  refine ⟨v1, w1, hr, _, relab ρ1 j (lab i rows.length), h1.relab hj0 _, fun b hbi hbj => (Tr.of_adv h2 hbi).trans h2.size (Tr.relab hbj), Gd.take_in (hG.rows_adv h2) hG.small (hj.adv h2 (Ne.symm hij)) hij hlj h3 (fun r hr => ?_), fun r hr => by rw [upd_old hr], by rw [upd_new]⟩
  rcases List.mem_append.1 hr with h | h
  · have := hG.lt r h; omega
  · have := List.mem_singleton.1 h; omega
theorem Gd.lt_gl (hG : Gd d e' e ρ w B i v f idx rows) (h0 : 0 ≤ p) (h1 : p < idx.length) : gl 0 idx p < rows.length := by
  refine hG.lt _ ?_
  have hp : p.toNat < idx.length := by omega
  unfold gl
  rw [List.getD_eq_getElem?_getD, List.getElem?_eq_getElem hp]
  exact List.getElem_mem hp
theorem lt_of_len {r : Nat} (h0 : 0 ≤ p) (h1 : p < ((rows.getD r []).length : Int)) : r < rows.length := by
  rcases Nat.lt_or_ge r rows.length with h | h
  · exact h
  · rw [List.getD_eq_getElem?_getD, List.getElem?_eq_none h] at h1
    simp at h1
    omega
theorem mem_set' {l : List Nat} {k r y : Nat} (h : y ∈ l.set k r) : y = r ∨ y ∈ l := by
  rcases List.mem_or_eq_of_mem_set h with h | h
  · exact .inr h
  · exact .inl h
/-- grid[p] = a row of the grid -/
theorem r_gset {r : Nat} (hw : Wd w0 ρ w) (hG : Gd d e' e ρ w w0.heap.size i v f idx rows) (hr : r < rows.length) (h0 : 0 ≤ p) (h1 : p < idx.length) (hve : ∃ c, v = .slice (some ad) idx.length c) (hT : Ty P T 1 false)
    (hk : k = p.toNat * 1 + 0) (hf : Fr n a L) (hx : ev L x = some (.pointer (some (ad.add k)))) (hy : ev L y = some (f r).1) :
    ∃ w', (execOp a.eval ⟨dd, .store T x y, ty, pos, af, gd⟩).run P w = .ok .skip w' ∧ Wd w0 ρ w' ∧ Adv i ρ w ρ w' ∧ Gd d e' e ρ w' w0.heap.size i v f (idx.set p.toNat r) rows := by
  have hi : i ≠ 0 := by have := hG.small; omega
  obtain ⟨w', h2, h3, h4, h5⟩ := r_store_ec (dd := dd) (ty := ty) (pos := pos) (af := af) (gd := gd) (b := r) (0 : Nat) hw hi hG.out h0 h1 (Lens.id (fRef f)) hve hT hk hf hx hy (hG.rowAt hr).ro.cells1
  refine ⟨w', h2, h3, h4, h5, hG.rows_adv h4, fun y hy => ?_, hG.small⟩
  rcases mem_set' hy with rfl | h
  · exact hr
  · exact hG.lt y h
/-- grid[p] = a row of the call's own, j's -/
theorem r_gput (hw : Wd w0 ρ w) (hj0 : j ≠ 0) (hij : i ≠ j) (hlj : ∀ r, lab i r ≠ j) (hG : Gd d e' e ρ w w0.heap.size i v f idx rows) (hj : Ow (kf d) e' ρ w w0.heap.size j u xs) (h0 : 0 ≤ p) (h1 : p < idx.length) (hve : ∃ c, v = .slice (some ad) idx.length c) (hT : Ty P T 1 false)
    (hk : k = p.toNat * 1 + 0) (hf : Fr n a L) (hx : ev L x = some (.pointer (some (ad.add k)))) (hy : ev L y = some u) :
    ∃ w', (execOp a.eval ⟨dd, .store T x y, ty, pos, af, gd⟩).run P w = .ok .skip w' ∧ ∃ f' ρ', Wd w0 ρ' w' ∧ (∀ b, b ≠ i → b ≠ j → Tr b ρ w ρ' w') ∧
      Gd d e' e ρ' w' w0.heap.size i v f' (idx.set p.toNat rows.length) (rows ++ [xs]) ∧ (∀ r, r < rows.length → (f r).1 = (f' r).1) ∧ u = (f' rows.length).1 := by
  have hi : i ≠ 0 := by have := hG.small; omega
  have hu : u.oneCell' = true := hj.one
  have hO := recode_upd hG (u := ⟨u, hu⟩)
  obtain ⟨w', h2, h3, h4, h5⟩ := r_store_ec (dd := dd) (ty := ty) (pos := pos) (af := af) (gd := gd) (d := fRef (upd f rows.length ⟨u, hu⟩)) (b := rows.length) (0 : Nat) hw hi hO h0 h1 (Lens.id (fRef _)) hve hT hk hf hx hy (by
    show _ = [(upd f rows.length ⟨u, hu⟩ rows.length).1]
    rw [upd_new]
    exact hj.ro.cells1)
  refine ⟨w', h2, _, relab ρ j (lab i rows.length), h3.relab hj0 _, fun b hbi hbj => (Tr.of_adv h4 hbi).trans h4.size (Tr.relab hbj), Gd.take_in (hG.rows_adv h4) hG.small (hj.adv h4 (Ne.symm hij)) hij hlj h5 (fun r hr => ?_), fun r hr => by rw [upd_old hr], by rw [upd_new]⟩
  rcases mem_set' hr with rfl | h
  · omega
  · have := hG.lt r h; omega
/-- a store into a row of the grid -/
theorem r_gcell {β : Type} {d' : Fl β} {off r : Nat} {gt : α → β} {s : α → β → α} {b : β} {ag : Bool} (z : α) (hw : Wd w0 ρ w) (hG : Gd d e' e ρ w w0.heap.size i v f idx rows) (h0 : 0 ≤ p) (h1 : p < ((rows.getD r []).length : Int)) (hl : Lens d d' off gt s) (hve : ∃ c, (f r).1 = .slice (some ad) (rows.getD r []).length c) (hT : Ty P T d'.n ag)
    (hk : k = p.toNat * d.n + off) (hf : Fr n a L) (hx : ev L x = some (.pointer (some (ad.add k)))) (hy : ev L y = some u) (hu : u.cells.toList = d'.enc b) :
    ∃ w', (execOp a.eval ⟨dd, .store T x y, ty, pos, af, gd⟩).run P w = .ok .skip w' ∧ Wd w0 ρ w' ∧ Adv (lab i r) ρ w ρ w' ∧ Gd d e' e ρ w' w0.heap.size i v f idx (rows.set r ((rows.getD r []).set p.toNat (s (gl z (rows.getD r []) p) b))) := by
  have hr := lt_of_len h0 h1
  obtain ⟨w', h2, h3, h4, h5⟩ := r_store_ec (dd := dd) (ty := ty) (pos := pos) (af := af) (gd := gd) z hw (by unfold lab; omega) (hG.rowAt hr) h0 h1 hl hve hT hk hf hx hy hu
  refine ⟨w', h2, h3, h4, hG.out.adv h4 (Ne.symm (lab_ne hG.small.2 r)), fun t xs ht => ?_, fun y hy => by rw [List.length_set]; exact hG.lt y hy, hG.small⟩
  by_cases htr : r = t
  · subst htr
    rw [List.getElem?_set_self hr] at ht
    injection ht with ht
    subst ht
    exact h5
  · rw [List.getElem?_set_ne htr] at ht
    exact (hG.row t xs ht).adv h4 (by unfold lab; omega)
end Go.Proofs.YtB
