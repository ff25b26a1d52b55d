/- Words of this seat's own: who owns which block; variables in memory; slices that are read, slices of the call's own. -/
import Derived.Test.YtbhaeajdabgnhaaCsB3
set_option linter.unusedVariables false
set_option linter.unusedSimpArgs false
set_option linter.unusedSectionVars false
namespace Go.Proofs.YtB
open Go Go.RowKit
open Go.Proofs.YtbhaeajdabgnhaaW.PrintWords
variable {P : Program} {n : Nat} {a : Act} {L : List (Nat × Value)} {w w' w0 : World} {Q : Exit → Act → World → Prop} {ops : Array Oper} {rest : List Oper} {o : Oper}
variable {x y : Operand} {p q : Int} {T T' ty : TypeId} {pos : String} {af : Array Edge} {gd : Option (Nat × Bool)} {dd : Option Tmp} {ad : Addr} {k : Nat} {cs : List Value} {m : Nat}
variable {ρ ρ' : Nat → Nat} {i j g : Nat}
/-- the call's world: below its first block nothing has turned; what is owned lies above -/
structure Wd (w0 : World) (ρ : Nat → Nat) (w : World) : Prop where
  below : Below w0.heap.size w0 w
  own : ∀ k, ρ k ≠ 0 → w0.heap.size ≤ k
/-- only what i owns may have turned -/
structure Adv (i : Nat) (ρ : Nat → Nat) (w : World) (ρ' : Nat → Nat) (w' : World) : Prop where
  size : w.heap.size ≤ w'.heap.size
  rho : ∀ k, k < w.heap.size → ρ' k = ρ k
  blk : ∀ k, k < w.heap.size → ρ k ≠ i → w'.heap[k]? = w.heap[k]?
theorem Wd.start (w0 : World) : Wd w0 (fun _ => 0) w0 := ⟨Below.refl _ _, fun k h => absurd rfl h⟩
/-- the blocks from w's end on are i's -/
def ownr (ρ : Nat → Nat) (w : World) (i : Nat) : Nat → Nat := fun k => if k < w.heap.size then ρ k else i
theorem own_old {k : Nat} (h : k < w.heap.size) : ownr ρ w i k = ρ k := by simp [ownr, h]
theorem own_new {k : Nat} (h : w.heap.size ≤ k) : ownr ρ w i k = i := by simp [ownr]; omega
theorem Wd.new (hw : Wd w0 ρ w) (i : Nat) (hb : Below w.heap.size w w') : Wd w0 (ownr ρ w i) w' := by
  refine ⟨hw.below.trans (hb.mono hw.below.size), fun k hk => ?_⟩
  rcases Nat.lt_or_ge k w.heap.size with h | h
  · rw [own_old h] at hk; exact hw.own k hk
  · exact Nat.le_trans hw.below.size h
theorem Adv.new (i : Nat) (hb : Below w.heap.size w w') : Adv i ρ w (ownr ρ w i) w' := ⟨hb.size, fun k h => own_old h, fun k h _ => hb.block k h⟩

/-- old blocks are as they were, and their owners -/
structure Ext (ρ : Nat → Nat) (w : World) (ρ' : Nat → Nat) (w' : World) : Prop where
  below : Below w.heap.size w w'
  rho : ∀ k, k < w.heap.size → ρ' k = ρ k
theorem Ext.refl (ρ : Nat → Nat) (w : World) : Ext ρ w ρ w := ⟨Below.refl _ _, fun _ _ => rfl⟩
theorem Ext.new (i : Nat) (hb : Below w.heap.size w w') : Ext ρ w (ownr ρ w i) w' := ⟨hb, fun k h => own_old h⟩
/-- b's blocks are as they were, and b's -/
def Tr (b : Nat) (ρ : Nat → Nat) (w : World) (ρ' : Nat → Nat) (w' : World) : Prop := ∀ k, k < w.heap.size → ρ k = b → ρ' k = b ∧ w'.heap[k]? = w.heap[k]?
/-- a variable in memory: its block, whole -/
structure Va (ρ : Nat → Nat) (w : World) (i g : Nat) (t : TypeId) (cs : List Value) : Prop where
  blk : w.heap[g]? = some (.cells cs.toArray t (0, 0))
  rho : ρ g = i
theorem Va.lt {t : TypeId} (h : Va ρ w i g t cs) : g < w.heap.size := blk_lt h.blk
theorem Va.adv {t : TypeId} (h : Va ρ w j g t cs) (hA : Adv i ρ w ρ' w') (hne : j ≠ i) : Va ρ' w' j g t cs :=
  ⟨(hA.blk g h.lt (by rw [h.rho]; exact hne)).trans h.blk, (hA.rho g h.lt).trans h.rho⟩
theorem Va.ext {t : TypeId} (h : Va ρ w i g t cs) (hE : Ext ρ w ρ' w') : Va ρ' w' i g t cs := ⟨(hE.below.block g h.lt).trans h.blk, (hE.rho g h.lt).trans h.rho⟩
theorem Va.tr {t : TypeId} (h : Va ρ w i g t cs) (hE : Tr i ρ w ρ' w') : Va ρ' w' i g t cs := ⟨(hE g h.lt h.rho).2.trans h.blk, (hE g h.lt h.rho).1⟩
theorem Va.cl {t : TypeId} (h : Va ρ w i g t cs) : Cl w ⟨g, 0, none⟩ 0 cs := fun j u hu => by
  rw [Nat.zero_add, add_plain, cell_of_row w g j cs.toArray t (0, 0) h.blk]
  simpa using hu
theorem r_box {v : Value} (i : Nat) (hw : Wd w0 ρ w) (hf : Fr n a L) (hx : ev L x = some v) (hc : v.cells.toList = cs) :
    ∃ u w', (execOp a.eval ⟨dd, .box T x, ty, pos, af, gd⟩).run P w = .ok (.value u) w' ∧
      ∃ g ρ', u = .pointer (some ((⟨g, 0, none⟩ : Addr).add 0)) ∧ Wd w0 ρ' w' ∧ Ext ρ w ρ' w' ∧ Va ρ' w' i g T cs := by
  have hb : Below w.heap.size w (w.alloc (.cells cs.toArray T)) := (Below.refl _ _).alloc (Nat.le_refl _) _
  refine ⟨_, w.alloc (.cells cs.toArray T), ?_, w.heap.size, ownr ρ w i, rfl, hw.new i hb, Ext.new i hb, ⟨heap_alloc_new w _, own_new (Nat.le_refl _)⟩⟩
  have e : v.cells = cs.toArray := by rw [← hc]
  simp [execOp, hf.ev hx, Instr.box, newVar, newRow, e, Addr.add]
theorem r_alloc (i : Nat) {z : Value} (hz : (P.info? T).bind (·.zero) = some z) (hc : z.cells.toList = cs) (hw : Wd w0 ρ w) :
    ∃ u w', (execOp a.eval ⟨dd, .alloc T, ty, pos, af, gd⟩).run P w = .ok (.value u) w' ∧
      ∃ g ρ', u = .pointer (some ((⟨g, 0, none⟩ : Addr).add 0)) ∧ Wd w0 ρ' w' ∧ Ext ρ w ρ' w' ∧ Va ρ' w' i g T cs := by
  have hb : Below w.heap.size w (w.alloc (.cells cs.toArray T)) := (Below.refl _ _).alloc (Nat.le_refl _) _
  refine ⟨_, w.alloc (.cells cs.toArray T), ?_, w.heap.size, ownr ρ w i, rfl, hw.new i hb, Ext.new i hb, ⟨heap_alloc_new w _, own_new (Nat.le_refl _)⟩⟩
  have e : z.cells = cs.toArray := by rw [← hc]
  obtain ⟨d, hd, hz⟩ := Option.bind_eq_some_iff.1 hz
  simp [execOp, Instr.alloc, zeroValue, typeInfo, hd, hz, newVar, newRow, e, Addr.add]
/-- a store into a part of a variable -/
theorem r_store {t : TypeId} {v : Value} {ag : Bool} {seg : List Value} (hw : Wd w0 ρ w) (hv : Va ρ w i g t cs) (hi : i ≠ 0) (hT : Ty P T m ag) (hf : Fr n a L) (hx : ev L x = some (.pointer (some ((⟨g, 0, none⟩ : Addr).add k)))) (hy : ev L y = some v)
    (hs : v.cells.toList = seg) (hl : seg.length = m) (hk : k + m ≤ cs.length) (h1 : ∀ u ∈ seg, u.oneCell' = true) :
    ∃ w', (execOp a.eval ⟨dd, .store T x y, ty, pos, af, gd⟩).run P w = .ok .skip w' ∧ Wd w0 ρ w' ∧ Adv i ρ w ρ w' ∧ Va ρ w' i g t (cs.take k ++ seg ++ cs.drop (k + m)) := by
  have hst := run_storeCells_at P g k t seg 0 cs.toArray w hv.blk (by simpa [hl] using hk) h1
  simp only [Nat.add_zero] at hst
  have hc : v.cells.size = m := by rw [← hl, ← hs, Array.length_toList]
  have hfar : ∀ b, b ≠ g → (w.setRow g (cs.take k ++ seg ++ cs.drop (k + m)).toArray).heap[b]? = w.heap[b]? := fun b hb => setRow_other w g b _ hb
  refine ⟨w.setRow g (cs.take k ++ seg ++ cs.drop (k + m)).toArray, ?_, ⟨hw.below.trans ⟨rfl, rfl, rfl, by simp, fun b hb => hfar b ?_, Nat.le_refl _⟩, hw.own⟩, ⟨by simp, fun _ _ => rfl, fun b hb hne => hfar b ?_⟩, ⟨setRow_heap w g cs.toArray _ t _ hv.blk, hv.rho⟩⟩
  · simp only [execOp, hf.ev hx, hf.ev hy, Instr.storeAt, Instr.sureAddr, storeVar]
    simp only [Sem.run_bind, Sem.run_pure, Result.andThen_ok, run_size hT, hc, add_plain, hs]
    simp only [ne_eq, not_true_eq_false, if_false, Sem.run_pure, Result.andThen_ok]
    rw [hst]
    simp [hl]
  · rintro rfl
    have := hw.own b (by rw [hv.rho]; exact hi)
    omega
  · rintro rfl
    exact hne hv.rho
/-- the same, by a lens: 'x's part is 'y then -/
theorem Va.lens {α β : Type} {d : Fl α} {d' : Fl β} {off : Nat} {gt : α → β} {s : α → β → α} {t : TypeId} {z : α} {u : β} (hl : Lens d d' off gt s) (h : Va ρ w i g t ((d.enc z).take off ++ d'.enc u ++ (d.enc z).drop (off + d'.n))) : Va ρ w i g t (d.enc (s z u)) := by
  rw [← hl.set]
  exact h

theorem res_tmp {fn : Func} {t : Tmp} {v : Value} (h : fn.results = #[.tmp t]) (hf : Fr n a L) (hx : look L t = some v) : (results fn a.tmps).run P w = .ok v w := by
  rw [results_tmp h]
  have := hf.l t v hx
  simp [this]
theorem res_cell {fn : Func} {t : Tmp} (h : fn.results = #[.cell t T]) (hT : Ty P T m true) (hf : Fr n a L) (hx : look L t = some (.pointer (some (ad.add k)))) (hc : Cl w ad k cs) (hl : cs.length = m) : (results fn a.tmps).run P w = .ok (.agg cs.toArray) w := by
  have h1 := hf.l t _ hx
  simp [results, h, h1, asAddr, run_loadVar_agg hT hc hl]
theorem res_ct {fn : Func} {t u : Tmp} {v : Value} (h : fn.results = #[.cell t T, .tmp u]) (hT : Ty P T m true) (hf : Fr n a L) (hx : look L t = some (.pointer (some (ad.add k)))) (hc : Cl w ad k cs) (hl : cs.length = m) (hu : look L u = some v) : (results fn a.tmps).run P w = .ok (.tuple #[.agg cs.toArray, v]) w := by
  have h1 := hf.l t _ hx
  have h2 := hf.l u _ hu
  simp [results, h, h1, h2, asAddr, run_loadVar_agg hT hc hl]
theorem res_tt {fn : Func} {t u : Tmp} {v v' : Value} (h : fn.results = #[.tmp t, .tmp u]) (hf : Fr n a L) (hx : look L t = some v) (hu : look L u = some v') : (results fn a.tmps).run P w = .ok (.tuple #[v, v']) w := by
  have h1 := hf.l t _ hx
  have h2 := hf.l u _ hu
  simp [results, h, h1, h2]
theorem res_ttt {fn : Func} {t u s : Tmp} {v v' v'' : Value} (h : fn.results = #[.tmp t, .tmp u, .tmp s]) (hf : Fr n a L) (hx : look L t = some v) (hu : look L u = some v') (hs : look L s = some v'') : (results fn a.tmps).run P w = .ok (.tuple #[v, v', v'']) w := by
  have h1 := hf.l t _ hx
  have h2 := hf.l u _ hu
  have h3 := hf.l s _ hs
  simp [results, h, h1, h2, h3]
theorem c_ret {fn : Func} {R : Ending → World → Prop} {v : Value} (hf : Fr n a L) (hr : (results fn a.tmps).run P w = .ok v w) (hR : R (.returned v) w) : bodyPost P fn R .ret a w := ⟨hf.d, v, hr, hR⟩
theorem fillOne {place : Nat → Option (Nat × Nat)} {cells : Array Value} {r : List (Nat × Value)} {t off sz : Nat} {v : Value} (hp : place t = some (off, sz)) (hs : v.cells.size = sz) (hfit : off + v.cells.size ≤ cells.size) :
    Instr.fill place cells ((t, v) :: r) = Instr.fill place (v.cells.zipIdx.foldl (fun cs (c, j) => cs.setIfInBounds (off + j) c) cells) r := by
  rw [Instr.fill]
  simp only [hp]
  rw [if_neg (by simp [hs]; omega)]
end Go.Proofs.YtB
