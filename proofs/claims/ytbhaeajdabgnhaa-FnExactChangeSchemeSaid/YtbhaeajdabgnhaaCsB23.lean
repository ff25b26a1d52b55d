/- Words of this seat's own: the library's sort of a grid's rows; slices that share a grid's rows. -/
import Derived.Test.YtbhaeajdabgnhaaCsB22
import Derived.Shelf.SlSortCmp.Whole1
set_option linter.unusedVariables false
set_option linter.unusedSimpArgs false
set_option linter.unusedSectionVars false
namespace Go.Proofs.YtB
open Go Go.RowKit Go.Sort Go.Shelf
open Go.Proofs.YtbhaeajdabgnhaaW.PrintWords
variable {P : Program} {n : Nat} {a : Act} {L : List (Nat × Value)} {w w' w0 ws : World} {Q : Exit → Act → World → Prop} {ops : Array Oper} {rest : List Oper} {o : Oper}
variable {x y : Operand} {p q : Int} {T T' ty : TypeId} {pos : String} {af : Array Edge} {gd : Option (Nat × Bool)} {dd : Option Tmp} {ad : Addr} {k : Nat} {m : Nat}
variable {ρ ρ' ρ0 : Nat → Nat} {i j g e e' B : Nat} {α β : Type} {v u : Value}
variable {d : Fl α} {f f' : Nat → V1} {idx : List Nat} {rows r : List (List α)}
theorem gi_range (rows : List (List α)) : gi (List.range rows.length) rows = rows := by
  apply List.ext_getElem?
  intro j
  unfold gi
  rw [List.getElem?_map]
  rcases Nat.lt_or_ge j rows.length with h | h
  · rw [List.getElem?_range h, Option.map_some, List.getElem?_eq_getElem h, List.getD_eq_getElem?_getD, List.getElem?_eq_getElem h]; rfl
  · rw [List.getElem?_eq_none (by simpa using h), List.getElem?_eq_none h]; rfl
structure Rf (f : Nat → V1) (e : Nat) (ρ : Nat → Nat) (w : World) (B j : Nat) (v : Value) (idx : List Nat) (m : Nat) : Prop where
  out : Ow (kf (fRef f)) e ρ w B j v idx
  lt : ∀ r, r ∈ idx → r < m
theorem Rf.ext (h : Rf f e ρ w B i v idx m) (hE : Ext ρ w ρ' w') : Rf f e ρ' w' B i v idx m := ⟨h.out.ext hE, h.lt⟩
theorem Rf.adv (h : Rf f e ρ w B i v idx m) (hA : Adv j ρ w ρ' w') (hne : i ≠ j) : Rf f e ρ' w' B i v idx m := ⟨h.out.adv hA hne, h.lt⟩
theorem Rf.tr (h : Rf f e ρ w B i v idx m) (hT : Tr i ρ w ρ' w') : Rf f e ρ' w' B i v idx m := ⟨h.out.tr hT, h.lt⟩
theorem Rf.relab (h : Rf f e ρ w B j v idx m) (b : Nat) : Rf f e (relab ρ j b) w B b v idx m := ⟨h.out.relab b, h.lt⟩
theorem Rf.empty {dd : Kd β} (h : Ow dd e ρ w B i v []) (hs : dd.sz = 1) (f : Nat → V1) (m : Nat) : Rf f e ρ w B i v [] m := by
  refine ⟨⟨h.1, ?_⟩, fun r hr => by simp at hr⟩
  obtain ⟨inner, ho, hr⟩ := h.2
  have hin : inner = [] := by have := hr.1; simpa using this
  subst hin
  refine ⟨[], ?_, rfl, fun j p hj => by simp at hj⟩
  show World.ownsRow w B e 1 v _ _
  rw [← hs]
  exact ho
theorem Rf.lt_gl (h : Rf f e ρ w B i v idx m) (h0 : 0 ≤ p) (h1 : p < idx.length) : gl 0 idx p < m := by
  refine h.lt _ ?_
  have hp : p.toNat < idx.length := by omega
  unfold gl
  rw [List.getD_eq_getElem?_getD, List.getElem?_eq_getElem hp]
  exact List.getElem_mem hp
/-- what is handed back: rows of the grid, apart or not -/
theorem Rf.fresh {idx2 : List Nat} {e2 : Nat} (h : Rf f e ρ w w0.heap.size j v idx rows.length) (hG : Gd d e' e2 ρ w w0.heap.size i u f idx2 rows) (hl : ∀ r, lab i r ≠ j) : Fresh (Kd.slice e' (kf d)) e w0 w v (gi idx rows) := by
  obtain ⟨hown, inner, ho, hr⟩ := h.out
  refine ⟨fun _ _ => trivial, inner, by rw [gi_len]; exact ho, by rw [gi_len]; exact hr.1, fun jj p hj => ?_⟩
  simp only [gi, List.getElem?_map, Option.map_eq_some_iff] at hj
  obtain ⟨r, hr', rfl⟩ := hj
  have h2 : (inner.drop (jj * 1)).take 1 = [(f r).1] := hr.2 jj r hr'
  have hrl := h.lt r (List.mem_of_getElem? hr')
  refine ⟨(f r).1, h2, Kd.R_mono (hG.rowAt hrl) (fun k hk => ⟨trivial, fun he => ?_⟩)⟩
  have h7 : ρ k = j := hown k he.symm
  exact hl r (hk.symm.trans h7)
end Go.Proofs.YtB
