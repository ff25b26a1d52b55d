/- Words of this seat's own: literals of elements with memory; calls that turn a slice of the caller's own. -/
import Derived.Test.YtbhaeajdabgnhaaCsB11
set_option linter.unusedVariables false
set_option linter.unusedSimpArgs false
set_option linter.unusedSectionVars false
namespace Go.Proofs.YtB
open Go Go.RowKit
open Go.Proofs.YtbhaeajdabgnhaaW.PrintWords
variable {P : Program} {n : Nat} {a : Act} {L : List (Nat × Value)} {w w' w0 ws : World} {Q : Exit → Act → World → Prop} {ops : Array Oper} {rest : List Oper} {o : Oper}
variable {x y : Operand} {p q : Int} {T T' ty : TypeId} {pos : String} {af : Array Edge} {gd : Option (Nat × Bool)} {dd : Option Tmp} {ad : Addr} {k : Nat} {cs : List Value} {m : Nat}
variable {ρ ρ' ρ0 : Nat → Nat} {i j g e B : Nat} {α β : Type} {d : Kd α} {xs ys : List α} {v u : Value}
def All2 (R : α → β → Prop) : List α → List β → Prop
  | [], [] => True
  | x :: xs, y :: ys => R x y ∧ All2 R xs ys
  | _, _ => False
theorem All2.imp {R R' : α → β → Prop} (h : ∀ x y, R x y → R' x y) : ∀ {xs : List α} {ys : List β}, All2 R xs ys → All2 R' xs ys
  | [], [], _ => trivial
  | x :: xs, y :: ys, hh => ⟨h _ _ hh.1, All2.imp h hh.2⟩
  | [], y :: ys, hh => hh.elim
  | x :: xs, [], hh => hh.elim
theorem All2.len {R : α → β → Prop} : ∀ {xs : List α} {ys : List β}, All2 R xs ys → xs.length = ys.length
  | [], [], _ => rfl
  | x :: xs, y :: ys, hh => by simp [All2.len hh.2]
  | [], y :: ys, hh => hh.elim
  | x :: xs, [], hh => hh.elim
theorem All2.get {R : α → β → Prop} : ∀ {xs : List α} {ys : List β}, All2 R xs ys → ∀ (j : Nat) (x : α) (y : β), xs[j]? = some x → ys[j]? = some y → R x y
  | [], [], _, j, x, y, h, _ => by cases h
  | x :: xs, y :: ys, hh, 0, x', y', h, h' => by
    injection h with h
    injection h' with h'
    subst h; subst h'
    exact hh.1
  | x :: xs, y :: ys, hh, j + 1, x', y', h, h' => All2.get hh.2 j x' y' h h'
  | [], y :: ys, hh, _, _, _, _, _ => hh.elim
  | x :: xs, [], hh, _, _, _, _, _ => hh.elim
abbrev RawT (m : Nat) := {x : List Value // x.length = m ∧ ∀ u ∈ x, u.oneCell' = true}
def fRaw (m : Nat) : Fl (RawT m) := ⟨m, fun x => x.1, fun x => x.2.1, fun x => x.2.2⟩
theorem raw_ro {raws : List (RawT m)} (hd : d.sz = m) (h : Ro (kf (fRaw m)) w v raws) (hK : All2 (fun x (r : RawT m) => d.K w x r.1) xs raws) : Ro d w v xs := by
  obtain ⟨A, c, rfl, hc, h1, h2, h3⟩ := h
  have hl := hK.len
  refine ⟨A, c, by rw [hl], by omega, rfl, by omega, fun hn => ?_⟩
  obtain ⟨ad, hA, hh⟩ := h3 (by omega)
  refine ⟨ad, hA, fun j p hj => ?_⟩
  have hjl : j < xs.length := (List.getElem?_eq_some_iff.1 hj).1
  obtain ⟨c, hc1, hc2, hc3⟩ := hh j _ (List.getElem?_eq_getElem (by omega))
  have hc2' : c = (raws[j]'(by omega)).1 := hc2
  have hk := hK.get j _ _ (List.getElem?_eq_getElem hjl) (List.getElem?_eq_getElem (show j < raws.length by omega))
  have hp : xs[j] = p := by
    have := List.getElem?_eq_getElem hjl
    rw [hj] at this
    injection this with this
    exact this.symm
  refine ⟨c, by rw [hc1, hd]; rfl, ?_, by rw [hd]; exact hc3⟩
  rw [hc2', ← hp]
  exact hk
theorem r_lit_ro {bytes : Nat} {z : Value} {l : List (Nat × Operand)} {vs : List Value} {raws : List (RawT m)} (hd : d.sz = m) (hT : P.underlying T = some (.slice e)) (he : El P e m bytes z) (hlen : raws.length * m ≤ 16777216) (hm : raws.length ≤ 16777216) (hw : Wd w0 ρ w) (hf : Fr n a L)
    (hl : l.map (fun p => ev L p.2) = vs.map some) (hi : l.map (·.1) = List.range raws.length) (hv : vs.map (fun v => v.cells.toList) = raws.map (·.1)) (hK : All2 (fun x (r : RawT m) => d.K w x r.1) xs raws) :
    ∃ v w', (execOp a.eval ⟨dd, .buildSlice T raws.length l.toArray, ty, pos, af, gd⟩).run P w = .ok (.value v) w' ∧ ∃ ρ', Wd w0 ρ' w' ∧ Ext ρ w ρ' w' ∧ Ro d w' v xs := by
  obtain ⟨v, w', h1, ρ', h2, h3, h4⟩ := r_lit (d := fRaw m) (dd := dd) (ty := ty) (pos := pos) (af := af) (gd := gd) 1 hT he hlen hm hw hf hl hi hv
  exact ⟨v, w', h1, ρ', h2, h3, raw_ro hd h4.ro (hK.imp fun x r hr => d.K_below h3.below.k hr)⟩

/-- what was not that slice's is as it was -/
structure Old (r1 : Nat → Nat) (ws : World) (ρ : Nat → Nat) (w : World) : Prop where
  size : ws.heap.size ≤ w.heap.size
  rho : ∀ k, k < ws.heap.size → ρ k = r1 k
  blk : ∀ k, k < ws.heap.size → r1 k = 0 → w.heap[k]? = ws.heap[k]?
theorem Old.adv {r1 : Nat → Nat} (h : Old r1 ws ρ w) (hA : Adv i ρ w ρ' w') (hne : 0 ≠ i) : Old r1 ws ρ' w' :=
  ⟨Nat.le_trans h.size hA.size, fun k hk => (hA.rho k (Nat.lt_of_lt_of_le hk h.size)).trans (h.rho k hk), fun k hk h0 => (hA.blk k (Nat.lt_of_lt_of_le hk h.size) (by rw [h.rho k hk, h0]; exact hne)).trans (h.blk k hk h0)⟩
theorem Old.ext {r1 : Nat → Nat} (h : Old r1 ws ρ w) (hE : Ext ρ w ρ' w') : Old r1 ws ρ' w' :=
  ⟨Nat.le_trans h.size hE.below.size, fun k hk => (hE.rho k (Nat.lt_of_lt_of_le hk h.size)).trans (h.rho k hk), fun k hk h0 => (hE.below.block k (Nat.lt_of_lt_of_le hk h.size)).trans (h.blk k hk h0)⟩
def oneOf (ρ0 : Nat → Nat) (i : Nat) : Nat → Nat := fun k => if ρ0 k = i then 1 else 0
theorem c_startm {c : Code} (hi : i ≠ 0) (hW : Wd w0 ρ0 ws) (ho : Ow d e ρ0 ws w0.heap.size i v xs) (h : ∀ w ρ, Wd w0 ρ w → Old (oneOf ρ0 i) ws ρ w → Ow d e ρ w w0.heap.size 1 v xs → c.wp P Q a w) : c.wp P Q a ws := by
  refine h ws (oneOf ρ0 i) ⟨hW.below, fun k hk => ?_⟩ ⟨Nat.le_refl _, fun _ _ => rfl, fun _ _ _ => rfl⟩ (Kd.R_mono ho fun k hk => by simp [oneOf, hk])
  refine hW.own k (fun h0 => hk ?_)
  simp [oneOf, h0, Ne.symm hi]
theorem m_wd (hW : Wd w0 ρ0 ws) (hw : Wd w0 ρ w) (hO : Old (oneOf ρ0 i) ws ρ w) : Wd w0 (ownr ρ0 ws i) w := by
  refine ⟨hw.below, fun k hk => ?_⟩
  rcases Nat.lt_or_ge k ws.heap.size with h | h
  · rw [own_old h] at hk; exact hW.own k hk
  · exact Nat.le_trans hW.below.size h
theorem m_adv (hO : Old (oneOf ρ0 i) ws ρ w) : Adv i ρ0 ws (ownr ρ0 ws i) w :=
  ⟨hO.size, fun k hk => own_old hk, fun k hk hne => hO.blk k hk (by simp [oneOf, hne])⟩
theorem m_ow (hO : Old (oneOf ρ0 i) ws ρ w) (ho : Ow d e ρ w w0.heap.size 1 v xs) : Ow d e (ownr ρ0 ws i) w w0.heap.size i v xs := by
  refine Kd.R_mono ho fun k hk => ?_
  rcases Nat.lt_or_ge k ws.heap.size with h | h
  · rw [own_old h]
    have h1 := hO.rho k h
    rw [hk] at h1
    unfold oneOf at h1
    split at h1
    · assumption
    · cases h1
  · exact own_new h
theorem st_mfn {dt : Nat} {f : FuncId} {args : Array Value} {Φ : (Nat → Nat) → Value → World → Prop} (hf : Fr n a L) (hg : o.guard = none) (hd : o.dst = some dt) (hn : dt < n) (hr : (execOp a.eval o).run P w = .ok (.enter f args) w)
    (hc : Calls P f args w fun e w' => ∃ v, e = .returned v ∧ ∃ ρ', Wd w0 ρ' w' ∧ Adv i ρ w ρ' w' ∧ Φ ρ' v w')
    (h : ∀ a' v w' ρ', Fr n a' ((dt, v) :: L) → Wd w0 ρ' w' → Adv i ρ w ρ' w' → Φ ρ' v w' → wpList P ops Q rest a' w') : wpList P ops Q (o :: rest) a w :=
  st_call (Φ := fun v w' => ∃ ρ', Wd w0 ρ' w' ∧ Adv i ρ w ρ' w' ∧ Φ ρ' v w') hf hg hd hn hr hc fun a' v w' hf' ⟨ρ', h1, h2, h3⟩ => h a' v w' ρ' hf' h1 h2 h3
theorem r_store_ek {d : Fl α} {d' : Fl β} {off : Nat} {gt : α → β} {s : α → β → α} {b : β} {c : Nat} {ag : Bool} {xs : List α} (z : α) (hw : Wd w0 ρ w) (hi : i ≠ 0) (hv : Ow (kf d) e ρ w w0.heap.size i v xs) (h0 : 0 ≤ p) (h1 : p < xs.length) (hl : Lens d d' off gt s) (hve : v = .slice (some ad) xs.length c) (hT : Ty P T d'.n ag)
    (hk : k = p.toNat * d.n + off) (hf : Fr n a L) (hx : ev L x = some (.pointer (some (ad.add k)))) (hy : ev L y = some u) (hu : u.cells.toList = d'.enc b) :
    ∃ w', (execOp a.eval ⟨dd, .store T x y, ty, pos, af, gd⟩).run P w = .ok .skip w' ∧ Wd w0 ρ w' ∧ Adv i ρ w ρ w' ∧ Ow (kf d) e ρ w' w0.heap.size i v (xs.set p.toNat (s (gl z xs p) b)) := by
  subst hk
  exact r_store_el z hw hi hv h0 h1 hl hve hT hf hx hy hu
end Go.Proofs.YtB
