/- Words of this seat's own: a slice whose elements are rows of the call's own that are turned in place: the outer slice holds references, each row is an own slice with a label of its own. -/
import Derived.Test.YtbmjglgpckfpjaaEqB15
set_option linter.unusedVariables false
set_option linter.unusedSimpArgs false
set_option linter.unusedSectionVars false
namespace Go.Proofs.YtB
open Go Go.RowKit
open Go.Proofs.YtbmjglgpckfpjaaW.PrintWords
variable {P : Program} {n : Nat} {a : Act} {L : List (Nat × Value)} {w w' w0 ws : World} {Q : Exit → Act → World → Prop} {ops : Array Oper} {rest : List Oper} {o : Oper}
variable {x y : Operand} {p q : Int} {T T' ty : TypeId} {pos : String} {af : Array Edge} {gd : Option (Nat × Bool)} {dd : Option Tmp} {ad : Addr} {k : Nat} {cs : List Value} {m : Nat}
variable {ρ ρ' ρ0 : Nat → Nat} {i j g e e' B : Nat} {α β : Type} {xs ys : List α} {v u : Value}
abbrev V1 := {v : Value // v.oneCell' = true}
def fRef (f : Nat → V1) : Fl Nat := ⟨1, fun r => [(f r).1], fun _ => rfl, fun r u hu => by rw [List.mem_singleton.1 hu]; exact (f r).2⟩
/-- the label of row r of the grid i -/
def lab (i r : Nat) : Nat := 1000 * (r + 1) + i
structure Gd (d : Fl α) (e' e : Nat) (ρ : Nat → Nat) (w : World) (B i : Nat) (v : Value) (f : Nat → V1) (idx : List Nat) (rows : List (List α)) : Prop where
  out : Ow (kf (fRef f)) e ρ w B i v idx
  row : ∀ r xs, rows[r]? = some xs → Ow (kf d) e' ρ w B (lab i r) (f r).1 xs
  lt : ∀ r, r ∈ idx → r < rows.length
  small : 0 < i ∧ i < 1000
/-- the rows as the slice reads -/
def gi (idx : List Nat) (rows : List (List α)) : List (List α) := idx.map fun r => rows.getD r []
variable {d : Fl α} {f f' : Nat → V1} {idx : List Nat} {rows : List (List α)}
theorem gi_len : (gi idx rows).length = idx.length := by simp [gi]
theorem getD_some {r : Nat} (h : r < rows.length) : rows[r]? = some (rows.getD r []) := by
  rw [List.getD_eq_getElem?_getD, List.getElem?_eq_getElem h]; rfl
theorem Gd.rowAt (h : Gd d e' e ρ w B i v f idx rows) {r : Nat} (hr : r < rows.length) : Ow (kf d) e' ρ w B (lab i r) (f r).1 (rows.getD r []) := h.row r _ (getD_some hr)
theorem Ow.one {d : Kd α} (h : Ow d e ρ w B i v xs) : v.oneCell' = true := h.ro.one
theorem lab_ne (h : i < 1000) (r : Nat) : lab i r ≠ i := by unfold lab; omega
theorem Gd.adv (h : Gd d e' e ρ w B i v f idx rows) (hA : Adv j ρ w ρ' w') (h1 : i ≠ j) (h2 : ∀ r, lab i r ≠ j) : Gd d e' e ρ' w' B i v f idx rows :=
  ⟨h.out.adv hA h1, fun r xs hr => (h.row r xs hr).adv hA (h2 r), h.lt, h.small⟩
theorem Gd.ext (h : Gd d e' e ρ w B i v f idx rows) (hE : Ext ρ w ρ' w') : Gd d e' e ρ' w' B i v f idx rows :=
  ⟨h.out.ext hE, fun r xs hr => (h.row r xs hr).ext hE, h.lt, h.small⟩
theorem Gd.tr (h : Gd d e' e ρ w B i v f idx rows) (h1 : Tr i ρ w ρ' w') (h2 : ∀ r, Tr (lab i r) ρ w ρ' w') : Gd d e' e ρ' w' B i v f idx rows :=
  ⟨h.out.tr h1, fun r xs hr => (h.row r xs hr).tr (h2 r), h.lt, h.small⟩
theorem Gd.ro (h : Gd d e' e ρ w B i v f idx rows) : Ro (Kd.slice e' (kf d)) w v (gi idx rows) := by
  obtain ⟨A, c, hv, hc, hC⟩ := h.out.ro
  refine ⟨A, c, by rw [gi_len]; exact hv, by rw [gi_len]; exact hc, rfl, by rw [gi_len]; exact hC.2.1, fun hn => ?_⟩
  obtain ⟨ad, hA, hel⟩ := hC.2.2 (by rwa [gi_len] at hn)
  refine ⟨ad, hA, fun j p hj => ?_⟩
  simp only [gi, List.getElem?_map, Option.map_eq_some_iff] at hj
  obtain ⟨r, hr, rfl⟩ := hj
  obtain ⟨c', h1, h2, h3⟩ := hel j r hr
  have h2' : c' = [(f r).1] := h2
  subst h2'
  have hrl := h.lt r (List.mem_of_getElem? hr)
  obtain ⟨A', c'', hu, hl, hC'⟩ := (h.rowAt hrl).ro
  exact ⟨_, rfl, ⟨A', c'', by rw [hu], hl, hC'⟩, h3⟩
theorem Gd.fresh (h : Gd d e' e ρ w w0.heap.size i v f idx rows) : Fresh (Kd.slice e' (kf d)) e w0 w v (gi idx rows) := by
  obtain ⟨hown, inner, ho, hr⟩ := h.out
  refine ⟨fun _ _ => trivial, inner, by rw [gi_len]; exact ho, by rw [gi_len]; exact hr.1, fun j p hj => ?_⟩
  simp only [gi, List.getElem?_map, Option.map_eq_some_iff] at hj
  obtain ⟨r, hr', rfl⟩ := hj
  have h2 : (inner.drop (j * 1)).take 1 = [(f r).1] := hr.2 j r hr'
  have hrl := h.lt r (List.mem_of_getElem? hr')
  refine ⟨(f r).1, h2, Kd.R_mono (h.rowAt hrl) (fun k hk => ⟨trivial, fun he => ?_⟩)⟩
  have h7 : ρ k = i := hown k he.symm
  exact lab_ne h.small.2 r (hk.symm.trans h7)
theorem Gd.empty {dd : Kd β} (h : Ow dd e ρ w B i v []) (hs : dd.sz = 1) (hi : 0 < i ∧ i < 1000) (f : Nat → V1) : Gd d e' e ρ w B i v f [] [] := by
  refine ⟨⟨h.1, ?_⟩, fun r xs hr => by simp at hr, fun r hr => by simp at hr, hi⟩
  obtain ⟨inner, ho, hr⟩ := h.2
  have hin : inner = [] := by have := hr.1; simpa using this
  subst hin
  refine ⟨[], ?_, rfl, fun j p hj => by simp at hj⟩
  show World.ownsRow w B e 1 v _ _
  rw [← hs]
  exact ho
/-- the same cells, told by another code -/
theorem Ow.recode {f f' : Nat → V1} (h : Ow (kf (fRef f)) e ρ w B i v idx) {idx' : List Nat} (he : idx.map (fun r => (f r).1) = idx'.map fun r => (f' r).1) : Ow (kf (fRef f')) e ρ w B i v idx' := by
  have hl : idx.length = idx'.length := by have := congrArg List.length he; simpa using this
  obtain ⟨hown, inner, ho, hr⟩ := h
  refine ⟨hown, inner, by rw [← hl]; exact ho, by rw [← hl]; exact hr.1, fun j p hj => ?_⟩
  have h1 := congrArg (fun l => l[j]?) he
  simp only [List.getElem?_map, hj, Option.map_some] at h1
  obtain ⟨r, hr', h2⟩ := Option.map_eq_some_iff.1 h1
  have h3 : (inner.drop (j * 1)).take 1 = [(f r).1] := hr.2 j r hr'
  show (inner.drop (j * 1)).take 1 = [(f' p).1]
  rw [h3, h2]
/-- the label j is b's from now on -/
def relab (ρ : Nat → Nat) (j b : Nat) : Nat → Nat := fun k => if ρ k = j then b else ρ k
theorem Wd.relab (hw : Wd w0 ρ w) (hj : j ≠ 0) (b : Nat) : Wd w0 (relab ρ j b) w := ⟨hw.below, fun k hk => by
  refine hw.own k (fun h0 => hk ?_)
  unfold YtB.relab
  rw [if_neg (by rw [h0]; exact Ne.symm hj)]
  exact h0⟩
theorem Tr.relab {b c : Nat} (hc : c ≠ j) : Tr c ρ w (relab ρ j b) w := fun k hk h => ⟨by unfold YtB.relab; rw [if_neg (by rw [h]; exact hc)]; exact h, rfl⟩
theorem Ow.relab {d : Kd α} (h : Ow d e ρ w B j v xs) (b : Nat) : Ow d e (relab ρ j b) w B b v xs := Kd.R_mono h (fun k hk => by unfold YtB.relab; rw [if_pos hk])
theorem Tr.trans {b : Nat} {ρ2 : Nat → Nat} {w2 : World} (hs : w.heap.size ≤ w'.heap.size) (h1 : Tr b ρ w ρ' w') (h2 : Tr b ρ' w' ρ2 w2) : Tr b ρ w ρ2 w2 := fun k hk h => by
  obtain ⟨a1, a2⟩ := h1 k hk h
  obtain ⟨b1, b2⟩ := h2 k (Nat.lt_of_lt_of_le hk hs) a1
  exact ⟨b1, b2.trans a2⟩
end Go.Proofs.YtB
