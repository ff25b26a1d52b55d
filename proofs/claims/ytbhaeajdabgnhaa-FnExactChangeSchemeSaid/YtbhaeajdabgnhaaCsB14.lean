/- Words of this seat's own: empty literals; slices beside nil; function values. -/
import Derived.Test.YtbhaeajdabgnhaaCsB12
import Derived.Lib.SliceRun
set_option linter.unusedVariables false
set_option linter.unusedSimpArgs false
set_option linter.unusedSectionVars false
namespace Go.Proofs.YtB
open Go Go.RowKit
open Go.Proofs.YtbhaeajdabgnhaaW.PrintWords
variable {P : Program} {n : Nat} {a : Act} {L : List (Nat × Value)} {w w' w0 ws : World} {Q : Exit → Act → World → Prop} {ops : Array Oper} {rest : List Oper} {o : Oper}
variable {x y : Operand} {p q : Int} {T T' ty : TypeId} {pos : String} {af : Array Edge} {gd : Option (Nat × Bool)} {dd : Option Tmp} {ad : Addr} {k : Nat} {cs : List Value} {m : Nat}
variable {ρ ρ' ρ0 : Nat → Nat} {i j g e B : Nat} {α β : Type} {d : Kd α} {xs ys : List α} {v u : Value}
theorem r_lit_none {bytes : Nat} {z : Value} (i : Nat) (hT : P.underlying T = some (.slice e)) (he : El P e d.sz bytes z) (hw : Wd w0 ρ w) :
    ∃ v w', (execOp a.eval ⟨dd, .buildSlice T 0 #[], ty, pos, af, gd⟩).run P w = .ok (.value v) w' ∧ ∃ ρ', Wd w0 ρ' w' ∧ Ext ρ w ρ' w' ∧ Ow d e ρ' w' w0.heap.size i v [] := by
  have hr := run_buildSlice (P := P) (vs := []) (len := 0) (sz := d.sz) (res := []) hT he (by omega) (fun c hc => by
    have : c = #[] := Array.eq_empty_of_size_eq_zero (by simpa using hc)
    subst this
    rfl) w
  have hb : Below w.heap.size w (w.alloc (.cells ([] : List Value).toArray e)) := (Below.refl _ _).alloc (Nat.le_refl _) _
  refine ⟨.slice (some ⟨w.heap.size, 0, none⟩) 0 0, w.alloc (.cells ([] : List Value).toArray e), by simp [execOp, hr], ownr ρ w i, hw.new i hb, Ext.new i hb, ?_⟩
  exact lit_ow (d := d) (xs := []) (inner := []) (okp := fun _ => False) i hw ⟨by simp, fun t q ht => by simp at ht⟩ (by simp) (fun _ h => h.elim) (fun k hk => own_new hk)
theorem Ro.nil_or (h : Ro d w v xs) : ((∃ c, v = .slice none 0 c) ∧ xs = []) ∨ ∃ A c, v = .slice (some A) xs.length c := by
  obtain ⟨A, c, rfl, h2, h3⟩ := h
  cases A with
  | some A => exact .inr ⟨A, c, rfl⟩
  | none =>
    left
    have h0 : xs.length = 0 := by
      rcases Nat.eq_zero_or_pos xs.length with h | h
      · exact h
      · obtain ⟨_, he, _⟩ := h3.2.2 h
        cases he
    exact ⟨⟨c, by rw [h0]⟩, List.eq_nil_of_length_eq_zero h0⟩
theorem r_isnil (hf : Fr n a L) (hx : ev L x = some v) (hv : ∃ c, v = .slice none 0 c) (hy : ev L y = some (.slice none 0 0)) (hT : P.underlying T = some (.slice e)) :
    (execOp a.eval ⟨dd, .binOp .eql T x y T', ty, pos, af, gd⟩).run P w = .ok (.value (.bool true)) w := by
  obtain ⟨c, rfl⟩ := hv
  simp only [execOp, hf.ev hx, hf.ev hy]
  simp [eqGuard, binOp, Op.equal, Op.maxDepth, Go.Lib.run_equalIn_slice_nil w 9999 T e _ _ _ _ _ hT]
theorem r_nonil (hf : Fr n a L) (hx : ev L x = some v) (hv : ∃ A c, v = .slice (some A) m c) (hy : ev L y = some (.slice none 0 0)) (hT : P.underlying T = some (.slice e)) :
    (execOp a.eval ⟨dd, .binOp .eql T x y T', ty, pos, af, gd⟩).run P w = .ok (.value (.bool false)) w := by
  obtain ⟨A, c, rfl⟩ := hv
  simp only [execOp, hf.ev hx, hf.ev hy]
  simp [eqGuard, binOp, Op.equal, Op.maxDepth, Go.Lib.run_equalIn_slice_nil w 9999 T e _ _ _ _ _ hT]
/-- cells of a block that is i's -/
structure Co (ρ : Nat → Nat) (w : World) (i : Nat) (ad : Addr) (k : Nat) (cs : List Value) : Prop where
  cl : Cl w ad k cs
  lt : ad.block < w.heap.size
  own : ρ ad.block = i
theorem cell_block {w w' : World} (ad : Addr) (h : w'.heap[ad.block]? = w.heap[ad.block]?) : w'.cell? ad = w.cell? ad := by
  unfold World.cell?
  rw [h]
theorem Co.move {ρ ρ' : Nat → Nat} {w w' : World} {i : Nat} (h : Co ρ w i ad k cs) (hr : ρ' ad.block = ρ ad.block) (hs : w.heap.size ≤ w'.heap.size) (hb : w'.heap[ad.block]? = w.heap[ad.block]?) : Co ρ' w' i ad k cs :=
  ⟨fun j u hu => (cell_block (w := w) (w' := w') (ad.add (k + j)) (by
    have e : (ad.add (k + j)).block = ad.block := by
      unfold Addr.add
      split <;> rfl
    rw [e]
    exact hb)).trans (h.cl j u hu), Nat.lt_of_lt_of_le h.lt hs, hr.trans h.own⟩
theorem Co.ext (h : Co ρ w i ad k cs) (hE : Ext ρ w ρ' w') : Co ρ' w' i ad k cs := h.move (hE.rho _ h.lt) hE.below.size (hE.below.block _ h.lt)
theorem Co.adv (h : Co ρ w i ad k cs) (hA : Adv j ρ w ρ' w') (hne : i ≠ j) : Co ρ' w' i ad k cs := h.move (hA.rho _ h.lt) hA.size (hA.blk _ h.lt (by rw [h.own]; exact hne))
theorem Ow.el {d : Fl α} {xs : List α} (h : Ow (kf d) e ρ w B i v xs) (z : α) (h0 : 0 ≤ p) (h1 : p < xs.length) : ∃ ad c, v = .slice (some ad) xs.length c ∧ Co ρ w i ad (p.toNat * d.n) (d.enc (gl z xs p)) := by
  obtain ⟨ad, c, hv, hc⟩ := Ro.el d h.ro z h0 h1
  subst hv
  obtain ⟨g, cap, he, hb, hlt, cells, hcells⟩ := Kd.R_form h (by omega)
  injection he with e1 _ _
  injection e1 with e1
  subst e1
  exact ⟨_, c, rfl, hc, hlt, h.1 _ rfl⟩
/-- an element's cells in a slice v of one's own -/
structure Ce (ρ : Nat → Nat) (w : World) (i : Nat) (v : Value) (len : Nat) (ad : Addr) (k : Nat) (cs : List Value) : Prop where
  co : Co ρ w i ad k cs
  at_ : ∃ c, v = .slice (some ad) len c
theorem Ce.ext {len : Nat} (h : Ce ρ w i v len ad k cs) (hE : Ext ρ w ρ' w') : Ce ρ' w' i v len ad k cs := ⟨h.co.ext hE, h.at_⟩
theorem Ce.adv {len : Nat} (h : Ce ρ w i v len ad k cs) (hA : Adv j ρ w ρ' w') (hne : i ≠ j) : Ce ρ' w' i v len ad k cs := ⟨h.co.adv hA hne, h.at_⟩
theorem Ow.ce {d : Fl α} {xs : List α} (h : Ow (kf d) e ρ w B i v xs) (z : α) (h0 : 0 ≤ p) (h1 : p < xs.length) : ∃ ad, Ce ρ w i v xs.length ad (p.toNat * d.n) (d.enc (gl z xs p)) := by
  obtain ⟨ad, c, hv, hc⟩ := Ow.el h z h0 h1
  exact ⟨ad, hc, c, hv⟩
theorem r_store_ec {d : Fl α} {d' : Fl β} {off : Nat} {gt : α → β} {s : α → β → α} {b : β} {ag : Bool} {xs : List α} (z : α) (hw : Wd w0 ρ w) (hi : i ≠ 0) (hv : Ow (kf d) e ρ w w0.heap.size i v xs) (h0 : 0 ≤ p) (h1 : p < xs.length) (hl : Lens d d' off gt s) (hve : ∃ c, v = .slice (some ad) xs.length c) (hT : Ty P T d'.n ag)
    (hk : k = p.toNat * d.n + off) (hf : Fr n a L) (hx : ev L x = some (.pointer (some (ad.add k)))) (hy : ev L y = some u) (hu : u.cells.toList = d'.enc b) :
    ∃ w', (execOp a.eval ⟨dd, .store T x y, ty, pos, af, gd⟩).run P w = .ok .skip w' ∧ Wd w0 ρ w' ∧ Adv i ρ w ρ w' ∧ Ow (kf d) e ρ w' w0.heap.size i v (xs.set p.toNat (s (gl z xs p) b)) := by
  obtain ⟨c, hve⟩ := hve
  exact r_store_ek z hw hi hv h0 h1 hl hve hT hk hf hx hy hu
end Go.Proofs.YtB
