/- Words of this seat's own: flat codes of values, parts of them; cells that are read; blocks of the call's own and who owns them. -/
import Derived.Test.YtbhaeajdabgnhaaCsB2
set_option linter.unusedVariables false
set_option linter.unusedSimpArgs false
set_option linter.unusedSectionVars false
namespace Go.Proofs.YtB
open Go Go.RowKit
open Go.Proofs.YtbhaeajdabgnhaaW.PrintWords (Kd add_add add_plain)
theorem viewStore_drawn {P : Program} {w : World} {at_ : Addr} {u : TypeId} {k : Addr} {v : Value} {b : Bool} {r : World × List Addr} (h : w.viewStore P at_ u k v b = .ok r) : r.1.drawn = w.drawn := by
  unfold World.viewStore at h
  simp only [bind, Except.bind, pure, Except.pure] at h
  repeat' (split at h)
  all_goals first
    | (cases h; done)
    | (injection h with h; rw [← h])
theorem farStore_drawn {P : Program} {w : World} {a : Addr} {v : Value} {b : Bool} {r : World × List Addr} (h : w.farStore P a v b = .ok r) : r.1.drawn = w.drawn := by
  unfold World.farStore at h
  repeat' (split at h)
  · rename_i h1
    injection h with h
    subst h
    exact viewStore_drawn h1
  · cases h
  · cases h
theorem ask_drawn {α : Type} : ∀ (q : Ask α) (w : World), w.drawn ≤ (w.ask q).2.drawn
  | .done a, w => Nat.le_refl _
  | .ask what range k, w => by
    unfold World.ask
    dsimp only
    split
    · exact ask_drawn _ w
    · exact Nat.le_trans (Nat.le_succ _) (ask_drawn _ { w with drawn := w.drawn + 1 })
theorem sys_drawn (w : World) (c : Sys) : w.drawn ≤ (w.sys c).2.drawn := by
  have h := ask_drawn (Kernel.perform c w.os) w
  unfold World.sys
  split
  · exact Nat.le_refl _
  · rename_i h1
    rw [h1] at h
    exact h
/-- draws only go on -/
theorem run_drawn {α : Type} {P : Program} : ∀ (m : Sem α) (w : World) {a : α} {w' : World}, m.run P w = .ok a w' → w.drawn ≤ w'.drawn
  | .pure a, w, _, _, h => by
    injection h with _ h
    rw [h]
    exact Nat.le_refl _
  | .load m a k, w, _, _, h => by
    unfold Sem.run at h
    split at h
    · exact run_drawn _ _ h
    · split at h
      · exact run_drawn _ _ h
      · cases h
  | .store m a v k, w, b, w', h => by
    have h2 : (∃ w1, w1.drawn = w.drawn ∧ k.run P w1 = .ok b w') := by
      cases v <;> simp only [Sem.run] at h <;> first
        | (cases h; done)
        | (split at h
           · split at h
             · cases h
             · exact ⟨w.setCell a _, rfl, h⟩
           · split at h
             · rename_i h1
               exact ⟨_, farStore_drawn h1, h⟩
             · cases h)
    obtain ⟨w1, e, h3⟩ := h2
    rw [← e]
    exact run_drawn _ _ h3
  | .new o k, w, _, _, h => run_drawn (k w.heap.size) { w with heap := w.heap.push o } h
  | .shape r k, w, _, _, h => run_drawn (k (w.shape? r)) w h
  | .freeze a n k, w, _, _, h => by
    have := run_drawn k (w.freeze a n) h
    unfold World.freeze at this
    split at this <;> exact this
  | .frozen a k, w, _, _, h => run_drawn (k (w.frozen? a)) w h
  | .getObj r k, w, _, _, h => by
    unfold Sem.run at h
    split at h
    · cases h
    · exact run_drawn _ _ h
    · cases h
  | .setObj r o k, w, _, _, h => by
    unfold Sem.run at h
    split at h
    · cases h
    · exact run_drawn k { w with heap := w.heap.setIfInBounds r o } h
    · cases h
  | .choose q k, w, _, _, h => by
    unfold Sem.run at h
    split at h
    · exact run_drawn _ _ h
    · exact Nat.le_trans (Nat.le_succ _) (run_drawn _ { w with drawn := w.drawn + 1 } h)
  | .sys c k, w, _, _, h => Nat.le_trans (sys_drawn w c) (run_drawn _ _ h)
  | .program k, w, _, _, h => run_drawn (k P) w h
  | .mark _ k, w, _, _, h => run_drawn k w h
  | .halt h, w, _, _, h' => by cases h'
/-- of the blocks below B nothing has turned, and draws have only gone on -/
structure Below (B : Nat) (w w' : World) : Prop where
  os : w'.os = w.os
  tape : w'.tape = w.tape
  output : w'.output = w.output
  size : w.heap.size ≤ w'.heap.size
  block : ∀ k, k < B → w'.heap[k]? = w.heap[k]?
  drawn : w.drawn ≤ w'.drawn
theorem Below.k {B : Nat} {w w' : World} (h : Below B w w') : Go.RowKit.Below B w w' := ⟨h.os, h.tape, h.output, h.size, h.block⟩
theorem Below.of {B : Nat} {w w' : World} (h : Go.RowKit.Below B w w') (hd : w.drawn ≤ w'.drawn) : Below B w w' := ⟨h.os, h.tape, h.output, h.size, h.block, hd⟩
theorem Below.refl (B : Nat) (w : World) : Below B w w := ⟨rfl, rfl, rfl, Nat.le_refl _, fun _ _ => rfl, Nat.le_refl _⟩
theorem Below.trans {B : Nat} {a b c : World} (h : Below B a b) (k : Below B b c) : Below B a c := .of (h.k.trans k.k) (Nat.le_trans h.drawn k.drawn)
theorem Below.mono {B B' : Nat} {w w' : World} (h : Below B w w') (hB : B' ≤ B) : Below B' w w' := .of (h.k.mono hB) h.drawn
theorem Below.drew {B : Nat} {a w : World} (h : Below B a w) : Below B a w.drew := .of h.k.drew (Nat.le_succ_of_le h.drawn)
theorem Below.alloc {B : Nat} {a w : World} (h : Below B a w) (hB : B ≤ w.heap.size) (o : Obj) : Below B a (w.alloc o) := .of (h.k.alloc hB o) h.drawn
theorem Below.setCell {B : Nat} {a w : World} (h : Below B a w) {p : Addr} (hp : B ≤ p.block) (u : Value) : Below B a (w.setCell p u) := .of (h.k.setCell hp u) h.drawn
theorem Below.grown {B : Nat} {a w w' : World} {row : Option Nat} (h : Below B a w) (hg : w.grownBy w' row) (hB : B ≤ w.heap.size) (hr : ∀ k, row = some k → B ≤ k) (hd : w.drawn ≤ w'.drawn) : Below B a w' := .of (h.k.grown hg hB hr) (Nat.le_trans h.drawn hd)
theorem Below.cell {B : Nat} {w w' : World} (h : Below B w w') {p : Addr} (hp : p.block < B) : w'.cell? p = w.cell? p := h.k.cell hp
theorem Below.frozen {B : Nat} {w w' : World} (h : Below B w w') {p : Addr} (hp : p.block < B) : w'.frozen? p = w.frozen? p := h.k.frozen hp
structure Fl (α : Type) where
  n : Nat
  enc : α → List Value
  len : ∀ x, (enc x).length = n
  one : ∀ x, ∀ u ∈ enc x, u.oneCell' = true
def fU8 : Fl UInt8 := ⟨1, fun b => [.int .u8 (b.toNat : Int)], fun _ => rfl, fun _ u hu => by rw [List.mem_singleton.1 hu]; rfl⟩
def fI64 : Fl Int := ⟨1, fun b => [.int .i64 b], fun _ => rfl, fun _ u hu => by rw [List.mem_singleton.1 hu]; rfl⟩
def fPair {α β : Type} (d : Fl α) (d' : Fl β) : Fl (α × β) := ⟨d.n + d'.n, fun x => d.enc x.1 ++ d'.enc x.2, fun x => by rw [List.length_append, d.len, d'.len], fun x u hu => by
  rcases List.mem_append.1 hu with h | h
  · exact d.one _ u h
  · exact d'.one _ u h⟩
theorem flatMap_len {α : Type} (d : Fl α) (l : List α) : (l.flatMap d.enc).length = l.length * d.n := by
  induction l with
  | nil => simp
  | cons x l ih => rw [List.flatMap_cons, List.length_append, d.len, ih, List.length_cons, Nat.succ_mul, Nat.add_comm]
theorem flatMap_one {α : Type} (d : Fl α) (l : List α) : ∀ u ∈ l.flatMap d.enc, u.oneCell' = true := by
  intro u hu
  obtain ⟨x, _, hx⟩ := List.mem_flatMap.1 hu
  exact d.one x u hx
def fVec {α : Type} (m : Nat) (d : Fl α) : Fl (Vector α m) := ⟨m * d.n, fun v => v.toList.flatMap d.enc, fun v => by rw [flatMap_len, Vector.length_toList], fun v => flatMap_one d _⟩
theorem flatMap_get {α : Type} (d : Fl α) : ∀ (l : List α) (i : Nat) (z : α), i < l.length → ((l.flatMap d.enc).drop (i * d.n)).take d.n = d.enc (l.getD i z)
  | [], i, z, h => by cases h
  | x :: l, 0, z, h => by
    rw [Nat.zero_mul, List.drop_zero, List.flatMap_cons, List.take_left' (d.len x)]
    rfl
  | x :: l, i + 1, z, h => by
    rw [List.flatMap_cons, Nat.succ_mul, Nat.add_comm, ← List.drop_drop, List.drop_left' (d.len x), flatMap_get d l i z (by simpa using h)]
    rfl
theorem flatMap_set {α : Type} (d : Fl α) : ∀ (l : List α) (i : Nat) (y : α), i < l.length → (l.flatMap d.enc).take (i * d.n) ++ d.enc y ++ (l.flatMap d.enc).drop (i * d.n + d.n) = (l.set i y).flatMap d.enc
  | [], i, y, h => by cases h
  | x :: l, 0, y, h => by
    rw [Nat.zero_mul, List.take_zero, List.nil_append, Nat.zero_add, List.flatMap_cons, List.drop_left' (d.len x)]
    rfl
  | x :: l, i + 1, y, h => by
    have ih := flatMap_set d l i y (by simpa using h)
    rw [List.flatMap_cons, Nat.succ_mul, Nat.add_comm (i * d.n) d.n, List.take_append, List.take_of_length_le (by rw [d.len]; omega), d.len, Nat.add_sub_cancel_left, List.set_cons_succ, List.flatMap_cons, ← ih]
    rw [Nat.add_assoc, ← List.drop_drop, List.drop_left' (d.len x)]
    simp only [List.append_assoc]
/-- a part of a value at a place among its cells -/
structure Lens {α β : Type} (d : Fl α) (d' : Fl β) (off : Nat) (g : α → β) (s : α → β → α) : Prop where
  fit : off + d'.n ≤ d.n
  get : ∀ x, ((d.enc x).drop off).take d'.n = d'.enc (g x)
  set : ∀ x y, (d.enc x).take off ++ d'.enc y ++ (d.enc x).drop (off + d'.n) = d.enc (s x y)
theorem Lens.id {α : Type} (d : Fl α) : Lens d d 0 (fun x => x) (fun _ y => y) :=
  ⟨by omega, fun x => by rw [List.drop_zero, List.take_of_length_le (by rw [d.len]; omega)], fun x y => by rw [List.take_zero, List.nil_append, List.drop_eq_nil_of_le (by rw [d.len]; omega), List.append_nil]⟩
theorem Lens.comp {α β γ : Type} {d : Fl α} {d1 : Fl β} {d2 : Fl γ} {o1 o2 : Nat} {g1 : α → β} {s1 : α → β → α} {g2 : β → γ} {s2 : β → γ → β} (h1 : Lens d d1 o1 g1 s1) (h2 : Lens d1 d2 o2 g2 s2) :
    Lens d d2 (o1 + o2) (fun x => g2 (g1 x)) (fun x y => s1 x (s2 (g1 x) y)) := by
  have f1 := h1.fit
  have f2 := h2.fit
  refine ⟨by omega, fun x => ?_, fun x y => ?_⟩
  · rw [← h2.get, ← h1.get, List.drop_take, List.drop_drop, List.take_take, Nat.min_eq_left (by omega)]
  · rw [← h1.set, ← h2.set, ← h1.get]
    apply List.ext_getElem?
    intro j
    simp only [List.getElem?_append, List.length_append, List.length_take, List.length_drop, List.getElem?_take, List.getElem?_drop, d.len, d1.len, d2.len]
    repeat' split
    all_goals first
      | rfl
      | omega
      | (congr 1; omega)
theorem Lens.fst {α β : Type} (d : Fl α) (d' : Fl β) : Lens (fPair d d') d 0 (fun x => x.1) (fun x y => (y, x.2)) :=
  ⟨by simp [fPair], fun x => by simp only [fPair, List.drop_zero]; rw [List.take_left' (d.len _)], fun x y => by simp only [fPair, List.take_zero, List.nil_append, Nat.zero_add]; rw [List.drop_left' (d.len _)]⟩
theorem Lens.snd {α β : Type} (d : Fl α) (d' : Fl β) : Lens (fPair d d') d' d.n (fun x => x.2) (fun x y => (x.1, y)) :=
  ⟨by simp [fPair], fun x => by simp only [fPair]; rw [List.drop_left' (d.len _), List.take_of_length_le (by rw [d'.len]; omega)],
    fun x y => by simp only [fPair]; rw [List.take_left' (d.len _), List.drop_eq_nil_of_le (by rw [List.length_append, d.len, d'.len]; omega), List.append_nil]⟩
def vg {α : Type} {m : Nat} (z : α) (v : Vector α m) (i : Int) : α := v.toList.getD i.toNat z
def vs {α : Type} {m : Nat} (v : Vector α m) (i : Int) (y : α) : Vector α m := v.setIfInBounds i.toNat y
theorem Lens.vec {α : Type} {m : Nat} (z : α) (d : Fl α) (i : Int) (h0 : 0 ≤ i) (h1 : i < m) : Lens (fVec m d) d (i.toNat * d.n) (fun v => vg z v i) (fun v y => vs v i y) := by
  have hi : i.toNat < m := by omega
  refine ⟨?_, fun x => ?_, fun x y => ?_⟩
  · show i.toNat * d.n + d.n ≤ m * d.n
    rw [← Nat.succ_mul]
    exact Nat.mul_le_mul_right _ hi
  · exact flatMap_get d x.toList i.toNat z (by simpa using hi)
  · have := flatMap_set d x.toList i.toNat y (by simpa using hi)
    show _ = (vs x i y).toList.flatMap d.enc
    rw [show (vs x i y).toList = x.toList.set i.toNat y by simp [vs]]
    exact this

def isAggD : TypeDesc → Bool
  | .struct _ | .array _ _ => true
  | _ => false
variable {P : Program} {n : Nat} {a : Act} {L : List (Nat × Value)} {w w' w0 : World} {Q : Exit → Act → World → Prop} {ops : Array Oper} {rest : List Oper} {o : Oper}
structure Ty (P : Program) (T : TypeId) (m : Nat) (ag : Bool) : Prop where
  u : ∃ d, P.underlying T = some d ∧ isAggD d = ag
  s : ∃ i, P.info? T = some i ∧ i.size = m
theorem Ty.mk' {T m : Nat} {ag : Bool} (hu : (P.underlying T).map isAggD = some ag) (hs : (P.info? T).map (·.size) = some m) : Ty P T m ag := by
  obtain ⟨d, h1, h2⟩ := Option.map_eq_some_iff.1 hu
  obtain ⟨i, h3, h4⟩ := Option.map_eq_some_iff.1 hs
  exact ⟨⟨d, h1, h2⟩, ⟨i, h3, h4⟩⟩
theorem run_isAgg {T m : Nat} {ag : Bool} (h : Ty P T m ag) (w : World) : (isAgg T).run P w = .ok ag w := by
  obtain ⟨d, h1, h2⟩ := h.u
  unfold isAgg
  rw [Sem.run_bind, run_underlying h1]
  cases d <;> simp_all [isAggD]
theorem run_size {T m : Nat} {ag : Bool} (h : Ty P T m ag) (w : World) : (sizeOf T).run P w = .ok m w := by
  obtain ⟨i, h1, h2⟩ := h.s
  simp [sizeOf, typeInfo, h1, h2]

def Cl (w : World) (ad : Addr) (k : Nat) (cs : List Value) : Prop := ∀ j u, cs[j]? = some u → w.cell? (ad.add (k + j)) = some u
theorem Cl.part {ad : Addr} {k : Nat} {cs : List Value} (h : Cl w ad k cs) (off m : Nat) : Cl w ad (k + off) ((cs.drop off).take m) := by
  intro j u hu
  rw [List.getElem?_take] at hu
  split at hu
  · rw [List.getElem?_drop] at hu
    rw [Nat.add_assoc]
    exact h _ u hu
  · cases hu
theorem Cl.lens {α β : Type} {d : Fl α} {d' : Fl β} {off : Nat} {g : α → β} {s : α → β → α} {ad : Addr} {k : Nat} {x : α} (h : Cl w ad k (d.enc x)) (hl : Lens d d' off g s) : Cl w ad (k + off) (d'.enc (g x)) := by
  rw [← hl.get]
  exact h.part off d'.n
theorem Cl.below {ad : Addr} {k : Nat} {cs : List Value} (h : Cl w ad k cs) (hb : Below w.heap.size w w') : Cl w' ad k cs := fun j u hu => by
  have := h j u hu
  exact (hb.cell (World.block_lt_of_cell? w _ this)).trans this
theorem Cl.at_ {ad : Addr} {k : Nat} {cs : List Value} (h : Cl w ad k cs) (j : Nat) (u : Value) (hu : cs[j]? = some u) : Cl w ad (k + j) [u] := by
  intro i u' hu'
  cases i with
  | zero =>
    have e : u = u' := by simpa using hu'
    subst e
    exact h j u hu
  | succ i => simp at hu'

variable {x y : Operand} {p q : Int} {T T' ty : TypeId} {pos : String} {af : Array Edge} {gd : Option (Nat × Bool)} {dd : Option Tmp} {ad : Addr} {k : Nat} {cs : List Value} {m : Nat}
theorem run_loadVar_agg (hT : Ty P T m true) (hc : Cl w ad k cs) (hl : cs.length = m) : (loadVar T (ad.add k)).run P w = .ok (.agg cs.toArray) w := by
  have h := run_loadCells_list (P := P) w (ad.add k) cs (fun j v hv => by rw [add_add]; exact hc j v hv)
  rw [hl] at h
  simp [loadVar, Sem.run_bind, run_isAgg hT, run_size hT, h]
theorem run_loadVar_cell {v : Value} (hT : Ty P T m false) (hc : Cl w ad k [v]) : (loadVar T (ad.add k)).run P w = .ok v w := by
  have h := hc 0 v rfl
  simp only [Nat.add_zero] at h
  simp [loadVar, Sem.run_bind, run_isAgg hT, h]
theorem r_load_agg (hT : Ty P T m true) (hf : Fr n a L) (hx : ev L x = some (.pointer (some (ad.add k)))) (hc : Cl w ad k cs) (hl : cs.length = m) : (execOp a.eval ⟨dd, .load T x, ty, pos, af, gd⟩).run P w = .ok (.value (.agg cs.toArray)) w := by
  simp [execOp, hf.ev hx, Instr.loadAt, Instr.sureAddr, run_loadVar_agg hT hc hl]
theorem r_load_cell {v : Value} (hT : Ty P T m false) (hf : Fr n a L) (hx : ev L x = some (.pointer (some (ad.add k)))) (hc : Cl w ad k [v]) : (execOp a.eval ⟨dd, .load T x, ty, pos, af, gd⟩).run P w = .ok (.value v) w := by
  simp [execOp, hf.ev hx, Instr.loadAt, Instr.sureAddr, run_loadVar_cell hT hc]
theorem r_fieldAddr {S i off : Nat} {fs : Array Field} {f : Field} (hS : P.underlying S = some (.struct fs)) (hi : fs[i]? = some f) (ho : f.offset = off) (hz : ∃ j, P.info? f.type = some j ∧ j.size ≠ 0) (hf : Fr n a L) (hx : ev L x = some (.pointer (some (ad.add k)))) :
    (execOp a.eval ⟨dd, .fieldAddr S x i, ty, pos, af, gd⟩).run P w = .ok (.value (.pointer (some (ad.add (k + off))))) w := by
  obtain ⟨j, hj, hz⟩ := hz
  simp [execOp, hf.ev hx, Instr.fieldAt, run_underlying hS, hi, Instr.sureAddr, fieldPlace, sizeOf, typeInfo, hj, hz, add_add, ho]
theorem r_indexAddr_arr {len e sz : Nat} {kk : IntKind} (hT : P.underlying T = some (.array len e)) (hs : (P.info? e).map (·.size) = some sz) (hf : Fr n a L) (hx : ev L x = some (.pointer (some (ad.add k)))) (hy : ev L y = some (.int kk p)) (h0 : 0 ≤ p) (h1 : p < len) :
    (execOp a.eval ⟨dd, .indexAddr T x y, ty, pos, af, gd⟩).run P w = .ok (.value (.pointer (some (ad.add (k + p.toNat * sz))))) w := by
  obtain ⟨i, hi, hsz⟩ := Option.map_eq_some_iff.1 hs
  simp [execOp, hf.ev hx, hf.ev hy, Instr.indexAt, asIntOf, run_underlying hT, Instr.sureAddr, h0, h1, sizeOf, typeInfo, hi, hsz, add_add]
theorem r_indexAddr_sl {len c e sz : Nat} {kk : IntKind} (hT : P.underlying T = some (.slice e)) (hs : (P.info? e).map (·.size) = some sz) (hf : Fr n a L) (hx : ev L x = some (.slice (some ad) len c)) (hy : ev L y = some (.int kk p)) (h0 : 0 ≤ p) (h1 : p < len) :
    (execOp a.eval ⟨dd, .indexAddr T x y, ty, pos, af, gd⟩).run P w = .ok (.value (.pointer (some (ad.add (p.toNat * sz))))) w := by
  obtain ⟨i, hi, hsz⟩ := Option.map_eq_some_iff.1 hs
  simp [execOp, hf.ev hx, hf.ev hy, Instr.indexAt, asIntOf, run_underlying hT, h0, h1, sizeOf, typeInfo, hi, hsz]
theorem r_index_agg {len e sz : Nat} {kk : IntKind} (hT : P.underlying T = some (.array len e)) (he : Ty P e sz true) (hf : Fr n a L) (hx : ev L x = some (.agg cs.toArray)) (hy : ev L y = some (.int kk p)) (h0 : 0 ≤ p) (h1 : p < len) :
    (execOp a.eval ⟨dd, .index T x y, ty, pos, af, gd⟩).run P w = .ok (.value (.agg ((cs.drop (p.toNat * sz)).take sz).toArray)) w := by
  have e1 : cs.toArray.extract (p.toNat * sz) (p.toNat * sz + sz) = ((cs.drop (p.toNat * sz)).take sz).toArray := by
    simp [List.extract_toArray, List.extract_eq_take_drop]
  simp [execOp, hf.ev hx, hf.ev hy, Instr.index, asIntOf, run_underlying hT, h0, h1, part, run_isAgg he, run_size he, e1]
theorem r_index_cell {len e : Nat} {kk : IntKind} {v : Value} (hT : P.underlying T = some (.array len e)) (he : Ty P e 1 false) (hf : Fr n a L) (hx : ev L x = some (.agg cs.toArray)) (hy : ev L y = some (.int kk p)) (h0 : 0 ≤ p) (h1 : p < len) (hv : cs[p.toNat]? = some v) :
    (execOp a.eval ⟨dd, .index T x y, ty, pos, af, gd⟩).run P w = .ok (.value v) w := by
  simp [execOp, hf.ev hx, hf.ev hy, Instr.index, asIntOf, run_underlying hT, h0, h1, part, run_isAgg he, run_size he, hv]
end Go.Proofs.YtB
