/- Words of this seat's own: literals, make, cuts, stores into elements of the call's own slices. -/
import Derived.Test.YtbhaeajdabgnhaaCsB5
set_option linter.unusedVariables false
set_option linter.unusedSimpArgs false
set_option linter.unusedSectionVars false
namespace Go.Proofs.YtB
open Go Go.RowKit
open Go.Proofs.YtbhaeajdabgnhaaW.PrintWords
variable {P : Program} {n : Nat} {a : Act} {L : List (Nat × Value)} {w w' w0 : World} {Q : Exit → Act → World → Prop} {ops : Array Oper} {rest : List Oper} {o : Oper}
variable {x y : Operand} {p q : Int} {T T' ty : TypeId} {pos : String} {af : Array Edge} {gd : Option (Nat × Bool)} {dd : Option Tmp} {ad : Addr} {k : Nat} {cs : List Value} {m : Nat}
variable {ρ ρ' : Nat → Nat} {i j g e B : Nat} {α β : Type} {d : Kd α} {xs ys : List α} {v u : Value}
theorem foldl_set (off : Nat) : ∀ (vs : List Value) (j : Nat) (cs : Array Value), off + j + vs.length ≤ cs.size →
    ((vs.zipIdx j).foldl (fun (cs : Array Value) (p : Value × Nat) => cs.setIfInBounds (off + p.2) p.1) cs) = (cs.toList.take (off + j) ++ vs ++ cs.toList.drop (off + j + vs.length)).toArray
  | [], j, cs, h => by simp
  | v :: vs, j, cs, h => by
    rw [List.zipIdx_cons, List.foldl_cons, foldl_set off vs (j + 1) _ (by simpa [Nat.add_assoc, Nat.add_comm 1] using h)]
    have hl : off + j < cs.size := by simp at h; omega
    congr 1
    apply List.ext_getElem?
    intro t
    simp only [Array.toList_setIfInBounds, List.getElem?_append, List.length_append, List.length_take, List.length_set, Array.length_toList, List.getElem?_take, List.getElem?_set, List.getElem?_drop, List.length_cons, List.getElem?_cons]
    repeat' split
    all_goals first
      | rfl
      | omega
      | (congr 1; omega)
theorem fill_step {place : Nat → Option (Nat × Nat)} {r : List (Nat × Value)} {t off sz : Nat} {cs seg : List Value} (hp : place t = some (off, sz)) (hv : v.cells.toList = seg) (hs : seg.length = sz) (hfit : off + sz ≤ cs.length) :
    Instr.fill place cs.toArray ((t, v) :: r) = Instr.fill place (cs.take off ++ seg ++ cs.drop (off + sz)).toArray r := by
  have hc : v.cells.size = sz := by rw [← hs, ← hv, Array.length_toList]
  rw [fillOne hp hc (by simp [hc]; omega)]
  congr 1
  have h := foldl_set off seg 0 cs.toArray (by simp; omega)
  rw [← Array.foldl_toList]
  have e : v.cells.zipIdx.toList = seg.zipIdx := by rw [← hv]; simp
  rw [e]
  simpa [hs] using h
theorem fill_lens {d : Fl α} {d' : Fl β} {place : Nat → Option (Nat × Nat)} {r : List (Nat × Value)} {t off : Nat} {gt : α → β} {s : α → β → α} {z : α} {b : β} (hl : Lens d d' off gt s) (hp : place t = some (off, d'.n)) (hv : v.cells.toList = d'.enc b) :
    Instr.fill place (d.enc z).toArray ((t, v) :: r) = Instr.fill place (d.enc (s z b)).toArray r := by
  rw [fill_step hp hv (d'.len b) (by rw [d.len]; exact hl.fit), hl.set]
/-- a struct or array built -/
theorem r_build_arr {len sz : Nat} {z : Value} {res : Array Value} {l : List (Nat × Operand)} {vs : List (Nat × Value)} (hT : P.underlying T = some (.array len e)) (hs : (P.info? e).map (·.size) = some sz) (hz : (P.info? T).bind (·.zero) = some z) (hf : Fr n a L) (hl : l.map (fun p => ev L p.2) = vs.map (fun p => some p.2)) (hi : l.map (·.1) = vs.map (·.1))
    (hfill : Instr.fill (fun i => some (i * sz, sz)) z.cells vs = some res) :
    (execOp a.eval ⟨dd, .build T l.toArray, ty, pos, af, gd⟩).run P w = .ok (.value (.agg res)) w := by
  have hm : l.map (fun p => (p.1, a.eval p.2)) = vs := by
    clear hfill
    induction l generalizing vs with
    | nil => cases vs with
      | nil => rfl
      | cons => cases hl
    | cons o l ih => cases vs with
      | nil => cases hl
      | cons u vs =>
        simp only [List.map_cons, List.cons.injEq] at hl hi
        rw [List.map_cons, hf.ev hl.1, ih hl.2 hi.2, hi.1]
  obtain ⟨i0, h1, h2⟩ := Option.map_eq_some_iff.1 hs
  obtain ⟨i1, h3, h4⟩ := Option.bind_eq_some_iff.1 hz
  simp [execOp, Instr.build, zeroValue, typeInfo, h3, h4, run_underlying hT, sizeOf, h1, h2, hm, hfill]
def placeOf (fs : List (Nat × Nat)) (i : Nat) : Option (Nat × Nat) := fs[i]?
theorem run_places {fs : List Field} {pl : List (Nat × Nat)} (h : fs.map (fun f => ((P.info? f.type).map (fun i => (f.offset, i.size)))) = pl.map some) (w : World) :
    (fs.mapM (fun f => do pure (f.offset, ← sizeOf f.type) : Field → Sem (Nat × Nat))).run P w = .ok pl w := by
  induction fs generalizing pl with
  | nil => cases pl with
    | nil => simp
    | cons => cases h
  | cons f fs ih => cases pl with
    | nil => cases h
    | cons p pl =>
      simp only [List.map_cons, List.cons.injEq] at h
      obtain ⟨i, h1, h2⟩ := Option.map_eq_some_iff.1 h.1
      have hsz : (sizeOf f.type).run P w = .ok i.size w := by simp [sizeOf, typeInfo, h1]
      rw [List.mapM_cons]
      simp only [Sem.run_bind, Sem.run_pure, hsz, Result.andThen_ok, ih h.2, h2]
theorem r_build_struct {pl : List (Nat × Nat)} {fs : List Field} {z : Value} {res : Array Value} {l : List (Nat × Operand)} {vs : List (Nat × Value)} (hT : P.underlying T = some (.struct fs.toArray)) (hs : fs.map (fun f => ((P.info? f.type).map (fun i => (f.offset, i.size)))) = pl.map some) (hz : (P.info? T).bind (·.zero) = some z) (hf : Fr n a L) (hl : l.map (fun p => ev L p.2) = vs.map (fun p => some p.2)) (hi : l.map (·.1) = vs.map (·.1))
    (hfill : Instr.fill (placeOf pl) z.cells vs = some res) :
    (execOp a.eval ⟨dd, .build T l.toArray, ty, pos, af, gd⟩).run P w = .ok (.value (.agg res)) w := by
  have hm : l.map (fun p => (p.1, a.eval p.2)) = vs := by
    clear hfill hs
    induction l generalizing vs with
    | nil => cases vs with
      | nil => rfl
      | cons => cases hl
    | cons o l ih => cases vs with
      | nil => cases hl
      | cons u vs =>
        simp only [List.map_cons, List.cons.injEq] at hl hi
        rw [List.map_cons, hf.ev hl.1, ih hl.2 hi.2, hi.1]
  obtain ⟨i1, h3, h4⟩ := Option.bind_eq_some_iff.1 hz
  have hp := run_places hs w
  have hpl : (fun i => pl.toArray[i]?) = placeOf pl := by funext i; simp [placeOf]
  have hzv : (zeroValue T).run P w = .ok z w := by simp [zeroValue, typeInfo, h3, h4]
  simp only [execOp, Instr.build, Sem.run_bind, Sem.run_pure, Result.andThen_ok, run_underlying hT, List.mapM_toArray, List.map_toArray, Sem.run_map, hzv, hp, hm, hpl, hfill]

theorem reps_flat (d : Fl α) (xs : List α) {R : α → List Value → Prop} (hR : ∀ x, R x (d.enc x)) : Reps R d.n xs (xs.flatMap d.enc) := by
  refine ⟨flatMap_len d xs, fun j p hj => ?_⟩
  have hl := (List.getElem?_eq_some_iff.1 hj).1
  rw [flatMap_get d xs j p hl, List.getD_eq_getElem?_getD, hj]
  exact hR p
/-- a row of the call's own, just laid -/
theorem lit_ow {d : Kd α} {inner : List Value} {okp : Nat → Prop} (i : Nat) (hw : Wd w0 ρ w) (hrep : Reps (d.M w w0.heap.size okp) d.sz xs inner) (hm : xs.length ≤ 9223372036854775807) (hok : ∀ k, okp k → k < w.heap.size → ρ' k = i) (hnew : ∀ k, w.heap.size ≤ k → ρ' k = i) :
    Ow d e ρ' (w.alloc (.cells inner.toArray e)) w0.heap.size i (.slice (some ⟨w.heap.size, 0, none⟩) xs.length xs.length) xs := by
  refine ⟨fun k hk => ?_, inner, ?_, ?_⟩
  · have : w.heap.size = k := by simpa [Value.ownBlock] using hk
    subst this
    exact hnew _ (Nat.le_refl _)
  · have h2 := World.ownsRow_lit (base := w0.heap.size) (e := e) (size := d.sz) w inner.toArray xs.length hw.below.size (by simpa [maxLen] using hm) (by simpa using hrep.1)
    simpa using h2
  · refine hrep.imp_ (fun p c hp => d.M_mono (fun k hk => ⟨hok k hk.1 hk.2.2.1, fun he => ?_⟩) (Kd.M_below (d.M_bound hp) (below_alloc (Go.RowKit.Below.refl _ _) _)))
    have h3 : k = w.heap.size := by simpa [Value.ownBlock] using he
    have := hk.2.2.1
    omega
theorem r_make {d : Fl α} {bytes : Nat} {z : Value} {z0 : α} (i : Nat) (hT : P.underlying T = some (.slice e)) (he : El P e d.n bytes z) (hz : z.cells.toList = d.enc z0) (hw : Wd w0 ρ w) (hf : Fr n a L) (hx : ev L x = some (.int .i64 p)) (h0 : 0 ≤ p) (hl : p.toNat * bytes ≤ 281474976710656) :
    ∃ v w', (execOp a.eval ⟨dd, .makeSlice T x x, ty, pos, af, gd⟩).run P w = .ok (.value v) w' ∧ ∃ ρ', Wd w0 ρ' w' ∧ Ext ρ w ρ' w' ∧ Ow (kf d) e ρ' w' w0.heap.size i v (List.replicate p.toNat z0) := by
  obtain ⟨⟨i0, hi, hz0, hz1, hz2⟩, hzs, hs0, hb0⟩ := he
  obtain ⟨m, rfl⟩ := Int.eq_ofNat_of_zero_le h0
  simp only [Int.toNat_natCast] at hl ⊢
  have hm : m ≤ 281474976710656 := Nat.le_trans (Nat.le_mul_of_pos_right _ hb0) hl
  have hr := run_make (P := P) w T e i0 z hT hi hz0 .i64 .i64 (m : Int) (m : Int) (by omega) (by omega)
    (by
      have h3 : ((i0.bytes * m : Nat) : Int) ≤ 281474976710656 := by rw [hz2, Nat.mul_comm]; omega
      rwa [Int.natCast_mul] at h3) (by omega)
  simp only [Int.toNat_natCast] at hr
  rw [hz1] at hr
  have hb : Below w.heap.size w (w.alloc (.cells (madeCells z.cells (m * d.n)) e)) := (Below.refl _ _).alloc (Nat.le_refl _) _
  refine ⟨.slice (some ⟨w.heap.size, 0, none⟩) m m, w.alloc (.cells (madeCells z.cells (m * d.n)) e), by simp [execOp, hf.ev hx, hr], ownr ρ w i, hw.new i hb, Ext.new i hb, ?_⟩
  have h := lit_ow (d := kf d) (e := e) (ρ' := ownr ρ w i) (xs := List.replicate m z0) (inner := (madeCells z.cells (m * d.n)).toList) (okp := fun _ => False) i hw (Kd.reps_made hzs hs0 (by show z.cells.toList = d.enc z0; exact hz) m) (by simp; omega) (fun _ h => h.elim) (fun k hk => own_new hk)
  simpa using h
theorem run_buildSlice {len sz bytes : Nat} {z : Value} {vs : List (Nat × Value)} {res : List Value} (hT : P.underlying T = some (.slice e)) (he : El P e sz bytes z) (hlen : len * sz ≤ 16777216) (hfill : ∀ c : Array Value, c.size = len * sz → Instr.fill (fun i => some (i * sz, sz)) c vs = some res.toArray) (w : World) :
    (Instr.buildSlice T len vs.toArray).run P w = .ok (.slice (some ⟨w.heap.size, 0, none⟩) len len) (w.alloc (.cells res.toArray e)) := by
  obtain ⟨⟨i0, hi, hz0, hz1, hz2⟩, hzs, hs0, hb0⟩ := he
  have hn : ¬ (16777216 < len * sz) := by omega
  by_cases h0 : len * sz = 0
  · have := hfill ((Array.range (len * sz)).map ((#[] : Array Value)[· % (#[] : Array Value).size]!)) (by simp)
    simp only [h0] at this
    simp [Instr.buildSlice, run_underlying hT, sizeOf, typeInfo, hi, hz1, h0, newRow]
    try simp at this
    simp [this]
  · have := hfill ((Array.range (len * sz)).map (z.cells[· % z.cells.size]!)) (by simp)
    simp [Instr.buildSlice, run_underlying hT, sizeOf, typeInfo, hi, hz0, hz1, h0, hn, newRow, zeroValue]
    try simp at this
    simp [this]
theorem fill_all {sz : Nat} (segs : List (List Value)) (hs : ∀ s ∈ segs, s.length = sz) : ∀ (l : List (List Value)) (vs : List Value) (k : Nat) (pre : List Value) (c : List Value), (∀ s ∈ l, s.length = sz) → vs.map (fun v => v.cells.toList) = l → pre.length = k * sz → c.length = k * sz + l.length * sz → c.take (k * sz) = pre →
    Instr.fill (fun i => some (i * sz, sz)) c.toArray (vs.mapIdx fun i v => (k + i, v)) = some (pre ++ l.flatten).toArray
  | [], vs, k, pre, c, _, hv, hp, hc, ht => by
    have : vs = [] := by simpa using hv
    subst this
    have : c = pre := by rw [← ht, List.take_of_length_le (by simp at hc; omega)]
    simp [Instr.fill, this]
  | s :: l, vs, k, pre, c, hl, hv, hp, hc, ht => by
    cases vs with
    | nil => cases hv
    | cons v vs =>
      simp only [List.map_cons, List.cons.injEq] at hv
      have hsl : s.length = sz := hl s (by simp)
      have hc' : c.length = k * sz + (l.length * sz + sz) := by simpa [Nat.succ_mul] using hc
      rw [List.mapIdx_cons]
      simp only [Nat.add_zero]
      rw [fill_step (off := k * sz) (sz := sz) rfl hv.1 hsl (by omega)]
      have e : (vs.mapIdx fun i v => (k + (i + 1), v)) = vs.mapIdx fun i v => (k + 1 + i, v) := by
        congr 1
        funext i v
        rw [show k + (i + 1) = k + 1 + i by omega]
      rw [e, fill_all segs hs l vs (k + 1) (pre ++ s) _ (fun s' h => hl s' (by simp [h])) hv.2 (by simp [hp, hsl, Nat.succ_mul]) (by simp [hsl, Nat.succ_mul]; omega) ?_]
      · simp
      · rw [ht, Nat.succ_mul, List.append_assoc, List.take_append, List.take_of_length_le (by omega), List.take_append, hp, List.take_of_length_le (l := s) (by omega)]
        rw [show k * sz + sz - k * sz - s.length = 0 by omega]
        simp
/-- a literal '[]T{..}' of elements without memory -/
theorem r_lit {d : Fl α} {bytes : Nat} {z : Value} {l : List (Nat × Operand)} {vs : List Value} (i : Nat) (hT : P.underlying T = some (.slice e)) (he : El P e d.n bytes z) (hlen : xs.length * d.n ≤ 16777216) (hm : xs.length ≤ 16777216) (hw : Wd w0 ρ w) (hf : Fr n a L)
    (hl : l.map (fun p => ev L p.2) = vs.map some) (hi : l.map (·.1) = List.range xs.length) (hv : vs.map (fun v => v.cells.toList) = xs.map d.enc) :
    ∃ v w', (execOp a.eval ⟨dd, .buildSlice T xs.length l.toArray, ty, pos, af, gd⟩).run P w = .ok (.value v) w' ∧ ∃ ρ', Wd w0 ρ' w' ∧ Ext ρ w ρ' w' ∧ Ow (kf d) e ρ' w' w0.heap.size i v xs := by
  have hvl : vs.length = xs.length := by simpa using congrArg List.length hv
  have hll : l.length = vs.length := by simpa using congrArg List.length hl
  have hmm : l.map (fun p => (p.1, a.eval p.2)) = vs.mapIdx fun i v => (0 + i, v) := by
    apply List.ext_getElem?
    intro t
    rw [List.getElem?_map, List.getElem?_mapIdx]
    rcases Nat.lt_or_ge t l.length with h | h
    · have h1 : l[t]? = some l[t] := List.getElem?_eq_getElem h
      have h2 := congrArg (·[t]?) hl
      have h3 := congrArg (·[t]?) hi
      simp only [List.getElem?_map, h1, Option.map_some, List.getElem?_eq_getElem (show t < vs.length by omega)] at h2
      rw [List.getElem?_map, h1, List.getElem?_range (by omega)] at h3
      simp only [Option.map_some, Option.some.injEq] at h2 h3
      rw [h1, List.getElem?_eq_getElem (show t < vs.length by omega)]
      simp only [Option.map_some, Nat.zero_add]
      rw [hf.ev h2, h3]
    · rw [List.getElem?_eq_none h, List.getElem?_eq_none (by omega)]
      rfl
  have hr := run_buildSlice (P := P) (vs := vs.mapIdx fun i v => (0 + i, v)) (len := xs.length) (res := xs.flatMap d.enc) hT he hlen (fun c hc => by
    have := fill_all (sz := d.n) [] (by simp) (xs.map d.enc) vs 0 [] c.toList (by simp only [List.mem_map]; rintro _ ⟨x, _, rfl⟩; exact d.len x) hv (by simp) (by simpa using hc) (by simp)
    simpa [List.flatMap_def] using this) w
  have hb : Below w.heap.size w (w.alloc (.cells (xs.flatMap d.enc).toArray e)) := (Below.refl _ _).alloc (Nat.le_refl _) _
  refine ⟨.slice (some ⟨w.heap.size, 0, none⟩) xs.length xs.length, w.alloc (.cells (xs.flatMap d.enc).toArray e), ?_, ownr ρ w i, hw.new i hb, Ext.new i hb, lit_ow (d := kf d) (okp := fun _ => False) i hw (reps_flat d xs (fun _ => rfl)) (by omega) (fun _ h => h.elim) (fun k hk => own_new hk)⟩
  simp only [execOp, List.map_toArray, hmm]
  simp only [Nat.zero_add] at hr ⊢
  simp [hr]
/-- a literal of one slice, the call's own (j's): it goes into the row -/
theorem r_lit_row {d : Kd α} {bytes : Nat} {z : Value} {o1 : Operand} (i : Nat) (hT : P.underlying T = some (.slice e)) {e' : Nat} (he : El P e 1 bytes z) (hw : Wd w0 ρ w) (hj : j ≠ 0) (hf : Fr n a L) (hx : ev L o1 = some u) (hu : Ow d e' ρ w w0.heap.size j u xs) :
    ∃ v w', (execOp a.eval ⟨dd, .buildSlice T 1 #[(0, o1)], ty, pos, af, gd⟩).run P w = .ok (.value v) w' ∧ ∃ ρ', Wd w0 ρ' w' ∧ (∀ b, b ≠ j → Tr b ρ w ρ' w') ∧ Below w.heap.size w w' ∧ Ow (Kd.slice e' d) e ρ' w' w0.heap.size i v [xs] := by
  obtain ⟨A, c, hue⟩ := Kd.R_slice hu
  have hc : u.cells = #[u] := by rw [hue]; rfl
  have hr := run_buildSlice (P := P) (vs := [(0, u)]) (len := 1) (sz := 1) (res := [u]) hT he (by omega) (fun c hc' => by
    have := fill_all (sz := 1) [] (by simp) [[u]] [u] 0 [] c.toList (by simp) (by simp [hc]) (by simp) (by simpa using hc') (by simp)
    simpa using this) w
  have hb : Below w.heap.size w (w.alloc (.cells [u].toArray e)) := (Below.refl _ _).alloc (Nat.le_refl _) _
  let ρ1 : Nat → Nat := fun k => if k < w.heap.size then (if ρ k = j then i else ρ k) else i
  refine ⟨.slice (some ⟨w.heap.size, 0, none⟩) 1 1, w.alloc (.cells [u].toArray e), by simp [execOp, hf.ev hx, hr], ρ1, ⟨hw.below.trans (hb.mono hw.below.size), fun k hk => ?_⟩, fun b hbj k hk hρ => ⟨by simp [ρ1, hk, hρ, hbj], hb.block k hk⟩, hb, ?_⟩
  · rcases Nat.lt_or_ge k w.heap.size with h | h
    · refine hw.own k (fun h0 => hk ?_)
      simp [ρ1, h, h0, Ne.symm hj]
    · exact Nat.le_trans hw.below.size h
  · refine lit_ow (d := Kd.slice e' d) (xs := [xs]) (inner := [u]) (okp := fun k => ρ k = j) i hw ?_ (by simp) (fun k h1 h2 => by simp [ρ1, h1, h2]) (fun k hk => by simp [ρ1]; omega)
    refine ⟨by simp [Kd.slice], fun t q ht => ?_⟩
    cases t with
    | zero =>
      have : xs = q := by simpa using ht
      subst this
      exact ⟨u, by simp [Kd.slice], hu⟩
    | succ t => simp at ht
end Go.Proofs.YtB
