/- Words of this seat's own: short forms for the printed texts. -/
import Derived.Test.YtbhaeajdabgnhaaCsB16
set_option linter.unusedVariables false
set_option linter.unusedSimpArgs false
set_option linter.unusedSectionVars false
namespace Go.Proofs.YtB
open Go Go.RowKit
open Go.Proofs.YtbhaeajdabgnhaaW.PrintWords
variable {P : Program} {n : Nat} {a : Act} {L : List (Nat × Value)} {w w' w0 ws : World} {Q : Exit → Act → World → Prop} {ops : Array Oper} {rest : List Oper} {o : Oper}
abbrev vI (x : Int) : Value := .int .i64 x
abbrev vB (x : UInt8) : Value := .int .u8 (x.toNat : Int)
theorem s_ {d : Nat} {v : Value} (hf : Fr n a L) (hr : (execOp a.eval o).run P w = .ok (.value v) w')
    (h : ∀ a', Fr n a' ((d, v) :: L) → wpList P ops Q rest a' w') (hg : o.guard = none := by rfl) (hd : o.dst = some d := by rfl) (hn : d < n := by decide) : wpList P ops Q (o :: rest) a w :=
  st hf hg hd hn hr h
theorem sx_ {d : Nat} {Φ : Value → World → Prop} (hf : Fr n a L) (hr : ∃ v w', (execOp a.eval o).run P w = .ok (.value v) w' ∧ Φ v w')
    (h : ∀ a' v w', Fr n a' ((d, v) :: L) → Φ v w' → wpList P ops Q rest a' w') (hg : o.guard = none := by rfl) (hd : o.dst = some d := by rfl) (hn : d < n := by decide) : wpList P ops Q (o :: rest) a w :=
  st_ex hf hg hd hn hr h
theorem sk_ {Φ : World → Prop} (hf : Fr n a L) (hr : ∃ w', (execOp a.eval o).run P w = .ok .skip w' ∧ Φ w')
    (h : ∀ a' w', Fr n a' L → Φ w' → wpList P ops Q rest a' w') (hg : o.guard = none := by rfl) (hd : o.dst = none := by rfl) : wpList P ops Q (o :: rest) a w :=
  st_skip hf hg hd hr h
theorem got {t : Nat} {R : Value → Prop} (h : ∃ v, a.tmps[t]? = some v ∧ R v) (hf : Fr n a L) : ∃ v, Fr n a ((t, v) :: L) ∧ R v := by
  obtain ⟨v, h1, h2⟩ := h
  exact ⟨v, hf.more h1, h2⟩
theorem ex_ {α : Type} {p : α → Prop} {x : α} (h : p x) : ∃ x, p x := ⟨x, h⟩
theorem an_ {p q : Prop} (hp : p) (hq : q) : p ∧ q := ⟨hp, hq⟩
section
variable {l : List Oper} {ρ : Nat → Nat} {t : Nat} {R : (Nat → Nat) → World → Value → Prop} {K : Act → World → Prop} {v : Value}
theorem dv_ (hK : ∀ a' v ρ' w', Wd w0 ρ' w' → Ext ρ w ρ' w' → R ρ' w' v → a' = a.put (some t) v → K a' w') (hw : Wd w0 ρ w) (hg : Region.wanted o (yielded ops a.tmps) = true) (hr : (execOp a.eval o).run P w = .ok (.value v) w) (hR : R ρ w v) (hd : o.dst = some t := by rfl) :
    if Region.wanted o (yielded ops a.tmps) = true then o.wp P a w K Q else K (a.put o.dst undef) w := d_val hw hg hr hd hR hK
theorem dx_ {Φ : Value → World → Prop} (hK : ∀ a' v ρ' w', Wd w0 ρ' w' → Ext ρ w ρ' w' → R ρ' w' v → a' = a.put (some t) v → K a' w') (hw : Wd w0 ρ w) (hg : Region.wanted o (yielded ops a.tmps) = true) (hr : ∃ v w', (execOp a.eval o).run P w = .ok (.value v) w' ∧ Φ v w') (hR : ∀ v w', Φ v w' → ∃ ρ', Wd w0 ρ' w' ∧ Ext ρ w ρ' w' ∧ R ρ' w' v) (hd : o.dst = some t := by rfl) :
    if Region.wanted o (yielded ops a.tmps) = true then o.wp P a w K Q else K (a.put o.dst undef) w := d_ex hw hg hr hd hR hK
theorem dc_ {f : FuncId} {args : Array Value} {Φ : Value → World → Prop} (hK : ∀ a' v ρ' w', Wd w0 ρ' w' → Ext ρ w ρ' w' → R ρ' w' v → a' = a.put (some t) v → K a' w') (hw : Wd w0 ρ w) (hg : Region.wanted o (yielded ops a.tmps) = true) (hr : (execOp a.eval o).run P w = .ok (.enter f args) w) (hc : Calls P f args w fun e w' => ∃ v, e = .returned v ∧ Φ v w') (hR : ∀ v w', Φ v w' → ∃ ρ', Wd w0 ρ' w' ∧ Ext ρ w ρ' w' ∧ R ρ' w' v) (hd : o.dst = some t := by rfl) :
    if Region.wanted o (yielded ops a.tmps) = true then o.wp P a w K Q else K (a.put o.dst undef) w := d_call hw hg hr hc hd hR hK
theorem do_ {jj dj : Nat} {b b' : Bool} (hK : ∀ a' v ρ' w', Wd w0 ρ' w' → Ext ρ w ρ' w' → R ρ' w' v → a' = a.put (some t) v → K a' w') (hw : Wd w0 ρ w) (hf : Fr n a L) (hg : o.guard = some (jj, !b)) (hj : (ops[jj]?).bind (·.dst) = some dj) (hd : look L dj = some (.bool b')) (hb : b' = b) (hdd : o.dst = some t) (hR : R ρ w undef) :
    if Region.wanted o (yielded ops a.tmps) = true then o.wp P a w K Q else K (a.put o.dst undef) w := d_off hw hf hg hj hd hb hdd hR hK
end
end Go.Proofs.YtB
