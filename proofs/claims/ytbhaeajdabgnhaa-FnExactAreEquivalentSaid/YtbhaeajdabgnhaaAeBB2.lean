/- Words of this seat's own: worlds, regions, slices, grids: what the printed texts lean on. -/
import Derived.Test.YtbhaeajdabgnhaaAeBB1
import Derived.Lib.AppendZeros
import Derived.Shelf.SlSortCmp.NoneTotal
import Derived.Laws.Cover1
import Derived.Shelf.SlSortCmp.Whole1
/- Words of this seat's own: grids handed out, handed in and turned by a call. -/
set_option linter.unusedVariables false
set_option linter.unusedSimpArgs false
set_option linter.unusedSectionVars false
namespace Go.Proofs.YtB
open Go Go.RowKit
open Go.Proofs.YtbhaeajdabgnhaaW.PrintWords
variable {P : Program} {n : Nat} {a : Act} {L : List (Nat × Value)} {w w' w0 ws : World} {Q : Exit → Act → World → Prop} {ops : Array Oper} {rest : List Oper} {o : Oper}
variable {x y : Operand} {p q : Int} {T T' ty : TypeId} {pos : String} {af : Array Edge} {gd : Option (Nat × Bool)} {dd : Option Tmp} {ad : Addr} {k : Nat} {cs : List Value} {m : Nat}
variable {ρ ρ' ρ0 : Nat → Nat} {i j g e e' B : Nat} {α β : Type} {xs ys : List α} {v u : Value}
variable {d : Fl α} {f f' : Nat → V1} {idx : List Nat} {rows : List (List α)}
/-- a literal of one row -/
def Gl (e : Nat) (ρ : Nat → Nat) (w : World) (B i : Nat) (v u : Value) : Prop := ∃ hu : u.oneCell' = true, Ow (kf (fRef fun _ => ⟨u, hu⟩)) e ρ w B i v [0]
theorem Gl.ext (h : Gl e ρ w B i v u) (hE : Ext ρ w ρ' w') : Gl e ρ' w' B i v u := ⟨h.1, h.2.ext hE⟩
theorem Gl.adv (h : Gl e ρ w B i v u) (hA : Adv j ρ w ρ' w') (hne : i ≠ j) : Gl e ρ' w' B i v u := ⟨h.1, h.2.adv hA hne⟩
theorem Gl.tr (h : Gl e ρ w B i v u) (hT : Tr i ρ w ρ' w') : Gl e ρ' w' B i v u := ⟨h.1, h.2.tr hT⟩
theorem r_glit {bytes : Nat} {z : Value} {o1 : Operand} {d : Kd α} (i : Nat) (hT : P.underlying T = some (.slice e)) (he : El P e 1 bytes z) (hw : Wd w0 ρ w) (hf : Fr n a L) (hx : ev L o1 = some u) (hu : Ow d e' ρ w B j u xs) :
    ∃ v w', (execOp a.eval ⟨dd, .buildSlice T 1 #[(0, o1)], ty, pos, af, gd⟩).run P w = .ok (.value v) w' ∧ ∃ ρ', Wd w0 ρ' w' ∧ Ext ρ w ρ' w' ∧ Gl e ρ' w' w0.heap.size i v u := by
  have h1 : u.oneCell' = true := hu.one
  obtain ⟨v, w', h2, ρ', h3, h4, h5⟩ := r_lit (dd := dd) (ty := ty) (pos := pos) (af := af) (gd := gd) (l := [(0, o1)]) (d := fRef fun _ => ⟨u, h1⟩) (xs := [0]) (vs := [u]) i hT he (Nat.le_of_ble_eq_true rfl) (Nat.le_of_ble_eq_true rfl) hw hf (by simp [hx]) rfl (by simp [fRef, hu.ro.cells1])
  exact ⟨v, w', h2, ρ', h3, h4, h1, h5⟩
/-- append(grid, []T{row}) -/
theorem r_gapp' {lv : Value} {bytes c : Nat} {z : Value} (hT : P.underlying T = some (.slice e)) (he : El P e 1 bytes z) (hw : Wd w0 ρ w) (hj0 : j ≠ 0) (hij : i ≠ j) (hlj : ∀ r, lab i r ≠ j)
    (hG : Gd d e' e ρ w w0.heap.size i v f idx rows) (hL : Gl e ρ w w0.heap.size c lv u) (hj : Ow (kf d) e' ρ w w0.heap.size j u xs)
    (hl : (idx.length + 1) * bytes ≤ 140737488355328) (hf : Fr n a L) (hx : ev L x = some v) (hy : ev L y = some lv) :
    ∃ v1 w1, (execOp a.eval ⟨dd, .call ⟨.builtin .append, #[x, y], #[T, T]⟩, ty, pos, af, gd⟩).run P w = .ok (.value v1) w1 ∧ ∃ f' ρ', Wd w0 ρ' w1 ∧ (∀ b, b ≠ i → b ≠ j → Tr b ρ w ρ' w1) ∧
      Gd d e' e ρ' w1 w0.heap.size i v1 f' (idx ++ [rows.length]) (rows ++ [xs]) ∧ (∀ r, r < rows.length → (f r).1 = (f' r).1) ∧ u = (f' rows.length).1 :=
  r_gapp hT he hw hj0 hij hlj hG hL.2 hj hl hf hx hy
/-- the labels anew: row idx[j] is row j; what is none of them is the outer's -/
def norm (ρ : Nat → Nat) (i : Nat) (idx : List Nat) (c : Nat) : Nat → Nat := fun k => if ρ k = i then c else if 1000 ≤ ρ k ∧ ρ k % 1000 = i then (if ρ k / 1000 - 1 ∈ idx then lab c (idx.idxOf (ρ k / 1000 - 1)) else c) else ρ k
theorem norm_i {c : Nat} (h : ρ k = i) : norm ρ i idx c k = c := by simp [norm, h]
theorem lab_div (hi : i < 1000) (r : Nat) : lab i r / 1000 - 1 = r := by unfold lab; omega
theorem lab_mod (hi : i < 1000) (r : Nat) : lab i r % 1000 = i := by unfold lab; omega
theorem lab_ge (r : Nat) : 1000 ≤ lab i r := by unfold lab; omega
theorem norm_row {r c : Nat} (hi : i < 1000) (h : ρ k = lab i r) (hr : r ∈ idx) : norm ρ i idx c k = lab c (idx.idxOf r) := by
  unfold norm
  rw [if_neg (by rw [h]; exact lab_ne hi r), h, lab_div hi, lab_mod hi, if_pos ⟨lab_ge r, rfl⟩, if_pos hr]
theorem norm_far {c b : Nat} (h : ρ k = b) (h1 : b ≠ i) (h2 : ∀ r, b ≠ lab i r) (hi : i < 1000) : norm ρ i idx c k = b := by
  unfold norm
  rw [h, if_neg h1, if_neg]
  rintro ⟨h3, h4⟩
  apply h2 (b / 1000 - 1)
  unfold lab
  omega
theorem Gd.norm_at (hG : Gd d e' e ρ w B i v f idx rows) (hn : idx.Nodup) {c : Nat} (hc : 0 < c ∧ c < 1000) {ρ' : Nat → Nat} (hρ : ∀ k, B ≤ k → k < w.heap.size → ρ' k = norm ρ i idx c k) :
    Gd d e' e ρ' w B c v (fun j => f (idx.getD j 0)) (List.range idx.length) (gi idx rows) := by
  refine ⟨?_, fun j xs hj => ?_, fun r hr => by rw [gi_len]; exact List.mem_range.1 hr, hc⟩
  · have h1 : Ow (kf (fRef f)) e ρ' w B c v idx := Kd.R_mono (Kd.R_bound hG.out) (fun k hk => by rw [hρ k hk.2.1 hk.2.2.1]; exact norm_i hk.1)
    refine h1.recode ?_
    apply List.ext_getElem?
    intro j
    simp only [List.getElem?_map]
    rcases Nat.lt_or_ge j idx.length with hj | hj
    · rw [List.getElem?_range hj, List.getElem?_eq_getElem hj]
      simp [List.getD_eq_getElem?_getD, List.getElem?_eq_getElem hj]
    · rw [List.getElem?_eq_none hj, List.getElem?_eq_none (l := List.range idx.length) (by simpa using hj)]
      rfl
  · simp only [gi, List.getElem?_map, Option.map_eq_some_iff] at hj
    obtain ⟨r, hr, rfl⟩ := hj
    have hjl : j < idx.length := (List.getElem?_eq_some_iff.1 hr).1
    have hmem := List.mem_of_getElem? hr
    have hrow := hG.rowAt (hG.lt r hmem)
    have e1 : idx.getD j 0 = r := by rw [List.getD_eq_getElem?_getD, hr]; rfl
    have e2 : idx.idxOf r = j := by
      have := (List.getElem?_eq_some_iff.1 hr).2
      rw [← this]
      exact hn.idxOf_getElem j hjl
    rw [e1]
    refine Kd.R_mono (Kd.R_bound hrow) (fun k hk => ?_)
    rw [hρ k hk.2.1 hk.2.2.1, norm_row hG.small.2 hk.1 hmem, e2]
theorem Wd.norm (hw : Wd w0 ρ w) (hi : i ≠ 0) (idx : List Nat) (c : Nat) : Wd w0 (norm ρ i idx c) w := ⟨hw.below, fun k hk => by
  refine hw.own k (fun h0 => hk ?_)
  unfold YtB.norm
  rw [if_neg (by omega), if_neg (by omega)]
  exact h0⟩
theorem Tr.norm {b : Nat} (hb : b ≠ i) (hl : ∀ r, b ≠ lab i r) (hi : i < 1000) (idx : List Nat) (c : Nat) : Tr b ρ w (norm ρ i idx c) w := fun k hk h => ⟨norm_far h hb hl hi, rfl⟩
/-- a grid brought in order, in place -/
theorem Gd.sort (hG : Gd d e' e ρ w w0.heap.size i v f idx rows) (hw : Wd w0 ρ w) (hn : idx.Nodup) : ∃ f' ρ', Wd w0 ρ' w ∧ (∀ b, b ≠ i → (∀ r, b ≠ lab i r) → Tr b ρ w ρ' w) ∧ Gd d e' e ρ' w w0.heap.size i v f' (List.range (gi idx rows).length) (gi idx rows) := by
  have hs := hG.small
  have hN := hG.norm_at hn hs (ρ' := YtB.norm ρ i idx i) (fun k _ _ => rfl)
  rw [← gi_len (idx := idx) (rows := rows)] at hN
  exact ⟨_, _, hw.norm (by omega) idx i, fun b h1 h2 => Tr.norm h1 h2 hs.2 idx i, hN⟩
/-- the call's answer: a grid that it made, in order -/
def GFresh (d : Fl α) (e' e : Nat) (w0 w : World) (v : Value) (rows : List (List α)) : Prop := ∃ i f ρ idx rows', rows = gi idx rows' ∧ idx.Nodup ∧ Gd d e' e ρ w w0.heap.size i v f idx rows'
theorem GFresh.own (h : GFresh d e' e w w' v rows) (hw : Wd w0 ρ w) (hb : Below w.heap.size w w') (K : Nat) (hK : 0 < K ∧ K < 1000) :
    ∃ f ρ', Wd w0 ρ' w' ∧ Ext ρ w ρ' w' ∧ Gd d e' e ρ' w' w0.heap.size K v f (List.range rows.length) rows := by
  obtain ⟨i, f, ρ1, idx, rows', rfl, hn, hG⟩ := h
  let ρ2 : Nat → Nat := fun k => if k < w.heap.size then ρ k else if norm ρ1 i idx K k = 0 then K else norm ρ1 i idx K k
  have hG2 : Gd d e' e (norm ρ1 i idx K) w' w.heap.size K v (fun j => f (idx.getD j 0)) (List.range idx.length) (gi idx rows') := hG.norm_at hn hK (fun k _ _ => rfl)
  have key : ∀ {γ : Type} {dd : Kd γ} {ee l : Nat} {vv : Value} {zs : List γ}, l ≠ 0 → Ow dd ee (norm ρ1 i idx K) w' w.heap.size l vv zs → Ow dd ee ρ2 w' w0.heap.size l vv zs := by
    intro γ dd ee l vv zs hl h
    refine Kd.R_lower (Kd.R_mono (Kd.R_bound h) (fun k hk => ?_)) hw.below.size
    simp only [ρ2]
    rw [if_neg (by have := hk.2.1; omega), if_neg (by rw [hk.1]; exact hl)]
    exact hk.1
  refine ⟨fun j => f (idx.getD j 0), ρ2, ⟨hw.below.trans (hb.mono hw.below.size), fun k hk => ?_⟩, ⟨hb, fun k hk => by simp [ρ2, hk]⟩, ?_⟩
  · rcases Nat.lt_or_ge k w.heap.size with h | h
    · refine hw.own k (fun h0 => hk ?_)
      simp [ρ2, h, h0]
    · exact Nat.le_trans hw.below.size h
  · rw [gi_len]
    exact ⟨key (by omega) hG2.out, fun r xs hr => key (by unfold lab; omega) (hG2.row r xs hr), hG2.lt, hK⟩

/-- what i's grid may have turned -/
structure AdvG (i : Nat) (ρ : Nat → Nat) (w : World) (ρ' : Nat → Nat) (w' : World) : Prop where
  size : w.heap.size ≤ w'.heap.size
  rho : ∀ k, k < w.heap.size → ρ' k = ρ k
  blk : ∀ k, k < w.heap.size → ρ k ≠ i → (∀ r, ρ k ≠ lab i r) → w'.heap[k]? = w.heap[k]?
theorem AdvG.tr (h : AdvG i ρ w ρ' w') (b : Nat) (h1 : b ≠ i) (h2 : ∀ r, b ≠ lab i r) : Tr b ρ w ρ' w' := fun k hk hb => ⟨(h.rho k hk).trans hb, h.blk k hk (by rw [hb]; exact h1) (fun r => by rw [hb]; exact h2 r)⟩
/-- an object takes another's label: the two are one from now on -/
theorem Old.relab {r1 : Nat → Nat} (h : Old r1 ws ρ w) (hj : ∀ k, k < ws.heap.size → r1 k ≠ j) (b : Nat) : Old r1 ws (relab ρ j b) w :=
  ⟨h.size, fun k hk => by unfold YtB.relab; rw [h.rho k hk, if_neg (hj k hk)], h.blk⟩
end Go.Proofs.YtB

/- Words of this seat's own: function values with cells of their maker; a field of a struct in hand. -/
set_option linter.unusedVariables false
set_option linter.unusedSimpArgs false
set_option linter.unusedSectionVars false
namespace Go.Proofs.YtB
open Go Go.RowKit
open Go.Proofs.YtbhaeajdabgnhaaW.PrintWords
variable {P : Program} {n : Nat} {a : Act} {L : List (Nat × Value)} {w w' w0 ws : World} {Q : Exit → Act → World → Prop} {ops : Array Oper} {rest : List Oper} {o : Oper}
variable {x y : Operand} {p q : Int} {T T' ty : TypeId} {pos : String} {af : Array Edge} {gd : Option (Nat × Bool)} {dd : Option Tmp} {ad : Addr} {k : Nat} {cs : List Value} {m : Nat}
variable {ρ ρ' ρ0 : Nat → Nat} {i j g e e' B : Nat} {v u : Value}
theorem r_mkfn {f : FuncId} {l : List Operand} {vs : List Value} (hf : Fr n a L) (hx : evs L l = some vs) :
    (execOp a.eval ⟨dd, .makeFunc (.func f) #[] l.toArray, ty, pos, af, gd⟩).run P w = .ok (.value (.func (.func f) #[] vs.toArray)) w := by
  have hm : l.map a.eval = vs := by
    have h := evs_map hx
    clear hx
    induction l generalizing vs with
    | nil => cases vs with
      | nil => rfl
      | cons => cases h
    | cons o l ih => cases vs with
      | nil => cases h
      | cons u vs =>
        simp only [List.map_cons, List.cons.injEq] at h
        rw [List.map_cons, hf.ev h.1, ih h.2]
  simp [execOp, Instr.makeFunc, hm]
theorem r_fnc {f : FuncId} {ats : Array TypeId} {l : List Operand} {vs cs : List Value} {t : Nat} (he : En P f) (hf : Fr n a L) (ht : look L t = some (.func (.func f) #[] cs.toArray)) (hx : evs L l = some vs) :
    (execOp a.eval ⟨dd, .call ⟨.value (.tmp t), l.toArray, ats⟩, ty, pos, af, gd⟩).run P w = .ok (.enter f (vs ++ cs).toArray) w := by
  obtain ⟨fn, hfn, hnm, hb⟩ := he.h
  have hx' := evs_map hx
  clear hx
  have hm : l.map a.eval = vs := by
    clear hfn hnm hb he
    have hx := hx'
    clear hx'
    induction l generalizing vs with
    | nil => cases vs with
      | nil => rfl
      | cons => cases hx
    | cons o l ih => cases vs with
      | nil => cases hx
      | cons u vs =>
        simp only [List.map_cons, List.cons.injEq] at hx
        rw [List.map_cons, hf.ev hx.1, ih hx.2]
  have h1 : ¬ fn.name = "runtime.NumGoroutine" := by simpa using hnm
  have h2 : ¬ fn.body = none := by
    intro e
    rw [e] at hb
    cases hb
  have h3 : a.eval (.tmp t) = .func (.func f) #[] cs.toArray := hf.ev ht
  simp [execOp, resolve, h3, Deferred.ofValue, invoke, callFunc, hfn, h1, h2, hm]
theorem Va.relab {t : TypeId} (h : Va ρ w j g t cs) (b : Nat) : Va (relab ρ j b) w b g t cs := ⟨h.blk, by unfold YtB.relab; rw [if_pos h.rho]⟩
theorem r_fieldc {S i : Nat} {fs : Array Field} {f : Field} (hS : P.underlying S = some (.struct fs)) (hi : fs[i]? = some f) (he : Ty P f.type 1 false) (hf : Fr n a L) (hx : ev L x = some (.agg cs.toArray)) (hv : cs[f.offset]? = some v) :
    (execOp a.eval ⟨dd, .field S x i, ty, pos, af, gd⟩).run P w = .ok (.value v) w := by
  simp [execOp, hf.ev hx, Instr.field, asAgg, run_underlying hS, hi, part, run_isAgg he, run_size he, hv]
end Go.Proofs.YtB

/- Words of this seat's own: append(nil, make(..)...); cap of nil; literals of slices that are read. -/
set_option linter.unusedVariables false
set_option linter.unusedSimpArgs false
set_option linter.unusedSectionVars false
namespace Go.Proofs.YtB
open Go Go.RowKit
open Go.Proofs.YtbhaeajdabgnhaaW.PrintWords
variable {P : Program} {n : Nat} {a : Act} {L : List (Nat × Value)} {w w' w0 ws : World} {Q : Exit → Act → World → Prop} {ops : Array Oper} {rest : List Oper} {o : Oper}
variable {x y : Operand} {p q : Int} {T T' Tn ty : TypeId} {pos : String} {af : Array Edge} {gd : Option (Nat × Bool)} {dd : Option Tmp} {ad : Addr} {k : Nat} {cs : List Value} {m : Nat}
variable {ρ ρ' ρ0 : Nat → Nat} {i j g e e' B : Nat} {α : Type} {v u : Value} {xs : List α}
theorem r_cap0 (hT : P.underlying T = some (.slice e)) (hf : Fr n a L) (hx : ev L x = some (.slice none 0 0)) :
    (execOp a.eval ⟨dd, .call ⟨.builtin .cap, #[x], #[T]⟩, ty, pos, af, gd⟩).run P w = .ok (.value (.int .i64 0)) w := by
  simp [execOp, resolve, invoke, builtin, hf.ev hx, Builtin.cap_, run_underlying hT, goInt]
theorem execApp2 {s t : Operand} {vs vt v : Value} (hf : Fr n a L) (hs : ev L s = some vs) (ht : ev L t = some vt) (hr : (Builtin.append_ #[T, Tn] ty #[vs, vt]).run P w = .ok v w') :
    (execOp a.eval ⟨dd, .call ⟨.builtin .append, #[s, t], #[T, Tn]⟩, ty, pos, af, gd⟩).run P w = .ok (.value v) w' := by
  simp [execOp, resolve, invoke, builtin, hf.ev hs, hf.ev ht, hr]
theorem r_app_mk {d : Fl α} {bytes : Nat} {z : Value} {z0 : α} {kn : IntKind} (i : Nat) (hT : P.underlying T = some (.slice e)) (hTn : P.underlying Tn = some (.int kn)) (he : El P e d.n bytes z) (hz : z.cells.toList = d.enc z0) (hw : Wd w0 ρ w) (hf : Fr n a L) (hx : ev L x = some (.slice none 0 0)) (hy : ev L y = some (.int .i64 p)) (h0 : 0 < p) (hl : p.toNat * bytes ≤ 140737488355328) :
    ∃ v w', (execOp a.eval ⟨dd, .call ⟨.builtin .append, #[x, y], #[T, Tn]⟩, ty, pos, af, gd⟩).run P w = .ok (.value v) w' ∧ ∃ ρ', Wd w0 ρ' w' ∧ Ext ρ w ρ' w' ∧ Ow (kf d) e ρ' w' w0.heap.size i v (List.replicate p.toNat z0) := by
  obtain ⟨⟨i0, hi, hz0, hz1, hz2⟩, hzs, hs0, hb0⟩ := he
  obtain ⟨m, rfl⟩ := Int.eq_ofNat_of_zero_le (show 0 ≤ p by omega)
  simp only [Int.toNat_natCast] at hl ⊢
  have hm0 : 0 < m := by omega
  have hm : m ≤ 140737488355328 := Nat.le_trans (Nat.le_mul_of_pos_right _ hb0) hl
  have hr := Go.Lib.run_append_nil_zeros (P := P) w T Tn ty e i0 z .i64 kn hT hTn hi hz0 m hm0 (by rw [hz1]; exact hs0) (by omega) (by rw [hz2]; omega)
  have hge := grownCap_ge w m 0 e
  have hcm : grownCap w m 0 e ≤ maxLen := grownCap_le_maxLen w m 0 e (by simp only [maxLen]; omega)
  have hb : Below w.heap.size w (w.drew.alloc (.cells (Builtin.zeroCells z.cells m ++ Builtin.zeroCells z.cells (grownCap w m 0 e - m)) e)) := ⟨rfl, rfl, rfl, by simp, fun k hk => Go.RowKit.Below.heap_alloc w.drew _ k hk, Nat.le_succ _⟩
  have hmade := Kd.reps_made (R := fun (x : α) cs => cs = d.enc x) hzs hs0 hz m
  have hZm : (madeCells z.cells (m * d.n)).toList = (Builtin.zeroCells z.cells m).toList := by
    unfold madeCells Builtin.zeroCells
    rw [hzs]
  rw [hZm] at hmade
  have hzl : (Builtin.zeroCells z.cells m).toList.length = m * d.n := by have := hmade.1; simpa using this
  refine ⟨_, _, execApp2 hf hx hy hr, ownr ρ w i, hw.new i hb, Ext.new i hb, fun k hk => ?_, (Builtin.zeroCells z.cells m).toList, ⟨by rw [hzl, List.length_replicate]; rfl, .inr ⟨w.heap.size, grownCap w m 0 e, _, by rw [List.length_replicate], hw.below.size, heap_alloc_new w.drew _, by rw [List.length_replicate]; exact hge, hcm, ?_, ?_⟩⟩, hmade⟩
  · have : w.heap.size = k := by simpa [Value.ownBlock] using hk
    subst this
    exact own_new (Nat.le_refl _)
  · show _ = grownCap w m 0 e * d.n
    rw [Array.size_append, size_zeroCells, size_zeroCells, hzs, ← Nat.add_mul]
    congr 1
    omega
  · rw [List.length_replicate, Array.toList_append]
    exact List.take_left' hzl
theorem r_cut_nil {sz : Nat} {z : Operand} (hT : P.underlying T = some (.slice e)) (hs : (P.info? e).map (·.size) = some sz) (hf : Fr n a L) (hx : ev L x = some (.slice none 0 0)) (hz : ev L z = some (.int .i64 0)) :
    (execOp a.eval ⟨dd, .slice T x none (some z) none, ty, pos, af, gd⟩).run P w = .ok (.value (.slice none 0 0)) w := by
  have h := r_cut_v (dd := dd) (ty := ty) (pos := pos) (af := af) (gd := gd) (d := kf (fRaw sz)) (lo := 0) (hi := 0) (ol := none) (oh := some z) hT hs rfl (Ro.nil _ w 0) hf hx (.inl ⟨rfl, rfl⟩) (.inr ⟨z, rfl, hz⟩) (Int.le_refl 0) (Int.le_refl 0) (Int.le_refl _)
  exact h
theorem cl2 {γ : Type} {x y : γ} {r s : List γ} (h : x = y) (h' : r = s) : x :: r = y :: s := by rw [h, h']
theorem Ro.K {d : Kd α} (h : Ro d w u xs) (e : Nat) : (Kd.slice e d).K w xs [u] := by
  obtain ⟨A, c, rfl, h2, h3⟩ := h
  exact ⟨A, c, rfl, h2, h3⟩
end Go.Proofs.YtB

/- Words of this seat's own: cuts of arrays; the library's sort of an own slice, by its contract on the shelf. -/
set_option linter.unusedVariables false
set_option linter.unusedSimpArgs false
set_option linter.unusedSectionVars false
namespace Go.Proofs.YtB
open Go Go.RowKit Go.Sort Go.Shelf
open Go.Proofs.YtbhaeajdabgnhaaW.PrintWords
variable {P : Program} {n : Nat} {a : Act} {L : List (Nat × Value)} {w w' w0 ws : World}
variable {x y : Operand} {p q : Int} {T T' ty : TypeId} {pos : String} {af : Array Edge} {gd : Option (Nat × Bool)} {dd : Option Tmp} {ad : Addr} {k : Nat} {m : Nat}
variable {ρ ρ' ρ0 : Nat → Nat} {i j g e B : Nat} {α β : Type} {v u : Value}
theorem r_cut_arr {A : Addr} {mm sz : Nat} (hT : P.underlying T = some (.array mm e)) (hs : (P.info? e).map (·.size) = some sz) (hm : 0 < mm) (hf : Fr n a L) (hx : ev L x = some (.pointer (some A))) :
    (execOp a.eval ⟨dd, .slice T x none none none, ty, pos, af, gd⟩).run P w = .ok (.value (.slice (some A) mm mm)) w := by
  obtain ⟨i0, h4, h5⟩ := Option.map_eq_some_iff.1 hs
  have ha : A.add 0 = A := by simp [Addr.add]
  simp [execOp, hf.ev hx, Instr.sliceAt, Instr.sliceBounds, run_underlying hT, Instr.sureAddr, sizeOf, typeInfo, h4, h5, ha, show mm ≠ 0 by omega]
theorem cl_ro {d : Fl β} {mm : Nat} {xs : Vector β mm} (h : Cl w ad k ((fVec mm d).enc xs)) (h1 : mm ≤ 9223372036854775807) : Ro (kf d) w (.slice (some (ad.add k)) mm mm) xs.toList := by
  refine ⟨some (ad.add k), mm, by rw [Vector.length_toList], by rw [Vector.length_toList]; exact Nat.le_refl _, ?_⟩
  rw [Vector.length_toList]
  refine ⟨by rw [Vector.length_toList], h1, fun _ => ⟨ad.add k, rfl, fun jj pp hj => ⟨d.enc pp, d.len pp, rfl, fun ii uu hu => ?_⟩⟩⟩
  have hjl : jj < xs.toList.length := by
    rcases Nat.lt_or_ge jj xs.toList.length with h0 | h0
    · exact h0
    · rw [List.getElem?_eq_none h0] at hj; cases hj
  have hg := flatMap_get d xs.toList jj pp hjl
  rw [List.getD_eq_getElem?_getD, hj, Option.getD_some] at hg
  have hil : ii < d.n := by
    rcases Nat.lt_or_ge ii (d.enc pp).length with h0 | h0
    · rwa [d.len] at h0
    · rw [List.getElem?_eq_none h0] at hu; cases hu
  have h3 : (xs.toList.flatMap d.enc)[jj * d.n + ii]? = some uu := by
    rw [← hu, ← hg, List.getElem?_take, if_pos hil, List.getElem?_drop]
  have := h (jj * d.n + ii) uu h3
  rw [← this, add_add]
  rfl

def cfOf (cmp : α → α → Option Int) (x y : α) : Int := (cmp x y).getD 0
/-- cmp answers whatever two, and orders them, no two alike -/
structure Cmp (cmp : α → α → Option Int) : Prop where
  all : ∀ x y, ∃ r, cmp x y = some r
  swo : SWO (ltOf (cfOf cmp))
  tot : ∀ x y, ltOf (cfOf cmp) x y = false → ltOf (cfOf cmp) y x = false → x = y
open Classical in
noncomputable def sortBy (cmp : α → α → Option Int) (xs : List α) : Option (List α) := if Cmp cmp ∧ xs.length < 4611686018427387904 then some (xs.mergeSort fun x y => !(ltOf (cfOf cmp) y x)) else none
theorem below_grow {w w' : World} (h : Below w.heap.size w w') : ∃ q os, w' = grow (w.drewN q) os := by
  refine ⟨w'.drawn - w.drawn, w'.heap.extract w.heap.size w'.heap.size, ?_⟩
  have h1 : w'.heap = w.heap ++ w'.heap.extract w.heap.size w'.heap.size := by
    apply Array.ext_getElem?
    intro k
    rcases Nat.lt_or_ge k w.heap.size with hk | hk
    · rw [h.block k hk, Array.getElem?_append_left hk]
    · rw [Array.getElem?_append_right hk, Array.getElem?_extract]
      split
      · congr 1; omega
      · rename_i h2
        exact Array.getElem?_eq_none (by have := h.size; omega)
  have h2 : w.drawn + (w'.drawn - w.drawn) = w'.drawn := by have := h.drawn; omega
  have h3 : w.drewN (w'.drawn - w.drawn) = { w with drawn := w'.drawn } := by
    show ({ w with drawn := w.drawn + (w'.drawn - w.drawn) } : World) = _
    rw [h2]
  rw [h3]
  unfold grow
  show w' = { heap := w.heap ++ w'.heap.extract w.heap.size w'.heap.size, tape := w.tape, drawn := w'.drawn, os := w.os, output := w.output }
  rw [← h1, ← h.tape, ← h.os, ← h.output]
theorem flat_toList [Inhabited α] (d : Fl α) (xs : List α) : (flatK d.enc d.n xs.toArray).toList = xs.flatMap d.enc := by
  apply List.ext_getElem?
  intro t
  rcases Nat.lt_or_ge t (xs.length * d.n) with ht | ht
  · have hn : 0 < d.n := by
      rcases Nat.eq_zero_or_pos d.n with h | h
      · rw [h, Nat.mul_zero] at ht; omega
      · exact h
    have hq : t / d.n < xs.length := (Nat.div_lt_iff_lt_mul hn).2 ht
    have hr := Nat.mod_lt t hn
    have e1 : (flatK d.enc d.n xs.toArray).toList[t]? = some (d.enc xs[t / d.n])[t % d.n]! := by
      have hs : t < (flatK d.enc d.n xs.toArray).size := by simpa using ht
      have := get_flatK d.enc d.n xs.toArray t (by simpa using ht)
      rw [getElem!_pos _ t hs] at this
      rw [Array.getElem?_toList, Array.getElem?_eq_getElem hs, this]
      congr 2
      rw [getElem!_pos xs.toArray _ (by simpa using hq)]
      simp
    have hg := flatMap_get d xs (t / d.n) xs[t / d.n] hq
    rw [List.getD_eq_getElem?_getD, List.getElem?_eq_getElem hq, Option.getD_some] at hg
    have e2 : (xs.flatMap d.enc)[t]? = (d.enc xs[t / d.n])[t % d.n]? := by
      rw [← hg, List.getElem?_take, if_pos hr, List.getElem?_drop, Nat.mul_comm, Nat.div_add_mod]
    rw [e1, e2, List.getElem?_eq_getElem (by rw [d.len]; exact hr), getElem!_pos _ _ (by rw [d.len]; exact hr)]
  · rw [List.getElem?_eq_none (by simpa using ht), List.getElem?_eq_none (by rw [flatMap_len]; exact ht)]
theorem reps_eq {d : Fl α} : ∀ {xs : List α} {inner : List Value}, Reps (fun x cs => cs = d.enc x) d.n xs inner → inner = xs.flatMap d.enc := by
  intro xs inner h
  apply List.ext_getElem?
  intro t
  rcases Nat.lt_or_ge t (xs.length * d.n) with ht | ht
  · have hn : 0 < d.n := by
      rcases Nat.eq_zero_or_pos d.n with h | h
      · rw [h, Nat.mul_zero] at ht; omega
      · exact h
    have hq : t / d.n < xs.length := (Nat.div_lt_iff_lt_mul hn).2 ht
    have hr := Nat.mod_lt t hn
    have h1 := h.2 (t / d.n) _ (List.getElem?_eq_getElem hq)
    have hg := flatMap_get d xs (t / d.n) xs[t / d.n] hq
    rw [List.getD_eq_getElem?_getD, List.getElem?_eq_getElem hq, Option.getD_some] at hg
    have e1 : ((inner.drop (t / d.n * d.n)).take d.n)[t % d.n]? = inner[t]? := by
      rw [List.getElem?_take, if_pos hr, List.getElem?_drop, Nat.mul_comm, Nat.div_add_mod]
    have e2 : (((xs.flatMap d.enc).drop (t / d.n * d.n)).take d.n)[t % d.n]? = (xs.flatMap d.enc)[t]? := by
      rw [List.getElem?_take, if_pos hr, List.getElem?_drop, Nat.mul_comm, Nat.div_add_mod]
    rw [← e1, ← e2, h1, hg]
  · rw [List.getElem?_eq_none (by rw [h.1]; exact ht), List.getElem?_eq_none (by rw [flatMap_len]; exact ht)]
theorem sort_ok {ρs : Ren} [Inhabited α] {d : Fl α} {cmp : α → α → Option Int} {f81 gc : Nat} {e : Nat} {xs r : List α} (La : SlLaysF0.n6 P ρs) (h81 : ρs.f 6 = f81) (aE : ∀ w, (isAgg (ρs.t 24)).run P w = .ok true w) (zE : ∀ w, (Go.sizeOf (ρs.t 24)).run P w = .ok d.n w)
    (eg : ∀ args w, (callFunc gc args).run P w = .ok (.enter gc args) w) (hc : ∀ x y r W, cmp x y = some r → Calls P gc #[.agg (d.enc x).toArray, .agg (d.enc y).toArray] W fun e w => ∃ v, e = .returned v ∧ Below W.heap.size W w ∧ v = .int .i64 r)
    (hi : i ≠ 0) (hW : Wd w0 ρ0 ws) (ho : Ow (kf d) e ρ0 ws w0.heap.size i v xs) (hF : sortBy cmp xs = some r) (hn : 0 < d.n) :
    Calls P f81 #[v, .func (.func gc) #[] #[]] ws fun e1 w => ∃ u, e1 = .returned u ∧ ∃ ρ', Wd w0 ρ' w ∧ Adv i ρ0 ws ρ' w ∧ .tuple #[] = u ∧ Ow (kf d) e ρ' w w0.heap.size i v r := by
  subst h81
  unfold sortBy at hF
  split at hF
  case isFalse => cases hF
  rename_i hC0
  obtain ⟨hC, hsz0⟩ := hC0
  injection hF with hF
  obtain ⟨hok, inner, hown, hrep⟩ := ho
  have hin := reps_eq hrep
  rcases hown.2 with ⟨rfl, h0⟩ | ⟨g, cap, cur, rfl, hbase, hb, h1, h2, h3, h4⟩
  · have hx : xs = [] := List.eq_nil_of_length_eq_zero h0
    subst hx
    rw [List.mergeSort_nil] at hF
    subst hF
    refine (AnyF.slices_SortFunc_none La none 0 (.func (.func gc) #[] #[]) ws).mono ?_
    rintro e1 w1 ⟨rfl, rfl⟩
    exact ⟨_, rfl, ρ0, hW, ⟨Nat.le_refl _, fun _ _ => rfl, fun _ _ _ => rfl⟩, rfl, ⟨hok, inner, hown, hrep⟩⟩
  · replace h3 : cur.size = cap * d.n := h3
    replace h4 : cur.toList.take (xs.length * d.n) = inner := h4
    have hblk : g < ws.heap.size := (Array.getElem?_eq_some_iff.1 hb).1
    have hsz : xs.toArray.size < 4611686018427387904 := by simpa using hsz0
    have hH : HoldsK d.enc d.n ws g 0 xs.toArray := by
      intro t ht
      have ht' : t < xs.length * d.n := by simpa using ht
      refine ⟨?_, by simp [World.frozen?, hb]⟩
      have hs : t < (flatK d.enc d.n xs.toArray).size := ht
      have e1 : cur[t]? = some (flatK d.enc d.n xs.toArray)[t]! := by
        have e2 : (cur.toList.take (xs.length * d.n))[t]? = (xs.flatMap d.enc)[t]? := by rw [h4, hin]
        rw [List.getElem?_take, if_pos ht', ← flat_toList, Array.getElem?_toList, Array.getElem?_toList, Array.getElem?_eq_getElem hs] at e2
        rw [e2, getElem!_pos _ t hs]
      simp only [World.cell?, hb, Nat.zero_add, Option.isSome_none, Bool.false_eq_true, if_false, id]
      exact e1
    have hcl : CmpLays P gc #[] d.enc d.n (cfOf cmp) g 0 xs.toArray.size ws := by
      intro mm os dk hdk x y
      obtain ⟨r0, hr0⟩ := hC.all x y
      refine (hc x y r0 (sortWorldK d.enc d.n ws g 0 mm dk os) hr0).mono ?_
      rintro e1 w1 ⟨v1, rfl, hbl, rfl⟩
      obtain ⟨q1, os1, h5⟩ := below_grow hbl
      exact ⟨by simp [cfOf, hr0], q1, os1, h5⟩
    have hs := AnyQ.slices_SortFunc_total La d.n aE zE d.enc d.len d.one (cfOf cmp) hC.swo gc #[] g 0 cap xs.toArray ws eg hcl hH hblk hsz hC.tot
    simp only [List.size_toArray] at hs
    rw [hF] at hs
    have hrl : r.length = xs.length := by rw [← hF, List.length_mergeSort]
    refine hs.mono ?_
    rintro e1 w1 ⟨rfl, nn, os, rfl⟩
    have hheap : ∀ k, k < ws.heap.size → k ≠ g → (sortWorldK d.enc d.n ws g 0 nn r.toArray os).heap[k]? = ws.heap[k]? := by
      intro k hk hne
      unfold sortWorldK putRowK
      rw [heap_grow_old _ _ (by simpa using hk)]
      simp [putRow, mapBlock, Sort.ahead, Array.getElem?_modify, Ne.symm hne]
    have hsize : ws.heap.size ≤ (sortWorldK d.enc d.n ws g 0 nn r.toArray os).heap.size := by
      unfold sortWorldK putRowK
      simp
    have hrow : (sortWorldK d.enc d.n ws g 0 nn r.toArray os).heap[g]? = some (.cells (putCells id 0 (flatK d.enc d.n r.toArray) cur) e (0, 0)) := by
      unfold sortWorldK putRowK
      rw [heap_grow_old _ _ (by simpa using hblk)]
      simp [putRow, mapBlock, Sort.ahead, Array.getElem?_modify, hb, onCells]
    have hgi : ρ0 g = i := hok g (by simp [Value.ownBlock])
    have hgB : w0.heap.size ≤ g := hW.own g (by rw [hgi]; exact hi)
    refine ⟨_, rfl, ownr ρ0 ws i, ⟨hW.below.trans ⟨rfl, rfl, rfl, hsize, fun k hk => hheap k (Nat.lt_of_lt_of_le hk hW.below.size) (by omega), by show ws.drawn ≤ ws.drawn + nn; omega⟩, fun k hk => ?_⟩, ⟨hsize, fun k hk => own_old hk, fun k hk hne => hheap k hk (fun h => hne (by rw [h]; exact hgi))⟩, rfl, fun k hk => ?_, r.flatMap d.enc, ⟨by rw [flatMap_len]; rfl, .inr ⟨g, cap, putCells id 0 (flatK d.enc d.n r.toArray) cur, by rw [hrl], hbase, hrow, by rw [hrl]; exact h1, h2, by simp [putCells, h3, kf], ?_⟩⟩, reps_flat d r fun _ => rfl⟩
    · rcases Nat.lt_or_ge k ws.heap.size with h | h
      · rw [own_old h] at hk; exact hW.own k hk
      · exact Nat.le_trans hW.below.size h
    · simp [Value.ownBlock] at hk
      subst hk
      rw [own_old hblk]; exact hgi
    · have hcap : r.length * d.n ≤ cur.size := by
        rw [h3, hrl]; exact Nat.mul_le_mul_right _ h1
      show (putCells id 0 (flatK d.enc d.n r.toArray) cur).toList.take (r.length * d.n) = _
      rw [← flat_toList]
      apply List.ext_getElem?
      intro t
      rcases Nat.lt_or_ge t (r.length * d.n) with ht | ht
      · rw [List.getElem?_take, if_pos ht, Array.getElem?_toList, Array.getElem?_toList]
        have hs1 : t < (flatK d.enc d.n r.toArray).size := by simpa using ht
        rw [Array.getElem?_eq_getElem hs1]
        simp only [putCells, Array.getElem?_mapIdx, Array.getElem?_eq_getElem (show t < cur.size by omega), Option.map_some, Nat.zero_le, true_and, Nat.zero_add, if_pos hs1, Nat.sub_zero, id]
        rw [getElem!_pos _ t hs1]
      · rw [List.getElem?_take_eq_none (by omega), List.getElem?_eq_none (by simpa using ht)]
end Go.Proofs.YtB

/- Words of this seat's own: the greatest of three numbers. -/
set_option linter.unusedVariables false
set_option linter.unusedSimpArgs false
set_option linter.unusedSectionVars false
namespace Go.Proofs.YtB
open Go Go.RowKit
variable {P : Program} {n : Nat} {a : Act} {L : List (Nat × Value)} {w : World}
variable {x y z : Operand} {p q r : Int} {T1 T2 T3 ty : TypeId} {pos : String} {af : Array Edge} {gd : Option (Nat × Bool)} {dd : Option Tmp}
def max3 (p q r : Int) : Int := let m := if q > p then q else p; if r > m then r else m
theorem r_max3 (hf : Fr n a L) (hx : ev L x = some (.int .i64 p)) (hy : ev L y = some (.int .i64 q)) (hz : ev L z = some (.int .i64 r)) :
    (execOp a.eval ⟨dd, .call ⟨.builtin .max, #[x, y, z], #[T1, T2, T3]⟩, ty, pos, af, gd⟩).run P w = .ok (.value (.int .i64 (max3 p q r))) w := by
  simp only [execOp, resolve, invoke, builtin, List.map_toArray, List.map_cons, List.map_nil, hf.ev hx, hf.ev hy, hf.ev hz, Builtin.max_, Builtin.max2, max3]
  by_cases h1 : q > p
  · by_cases h2 : r > q <;> simp [h1, h2, Builtin.max2]
  · by_cases h2 : r > p <;> simp [h1, h2, Builtin.max2]
def shl64 (p q : Int) : Int := w64 (p * 2 ^ min q.toNat 64)
def shr64 (p q : Int) : Int := p.fdiv (2 ^ min q.toNat 64)
theorem r_shl {T T' : TypeId} (hf : Fr n a L) (hx : ev L x = some (.int .i64 p)) (hy : ev L y = some (.int .i64 q)) (h0 : 0 ≤ q) : (execOp a.eval ⟨dd, .binOp .shl T x y T', ty, pos, af, gd⟩).run P w = .ok (.value (.int .i64 (shl64 p q))) w := by
  simp [execOp, hf.ev hx, hf.ev hy, eqGuard, binOp, Op.shift, w64, shl64, show ¬ q < 0 by omega, IntKind.bits]
theorem r_shr {T T' : TypeId} (hf : Fr n a L) (hx : ev L x = some (.int .i64 p)) (hy : ev L y = some (.int .i64 q)) (h0 : 0 ≤ q) : (execOp a.eval ⟨dd, .binOp .shr T x y T', ty, pos, af, gd⟩).run P w = .ok (.value (.int .i64 (shr64 p q))) w := by
  simp [execOp, hf.ev hx, hf.ev hy, eqGuard, binOp, Op.shift, shr64, show ¬ q < 0 by omega, IntKind.bits]
def and64 (p q : Int) : Int := w64 ((BitVec.ofInt 64 p &&& BitVec.ofInt 64 q).toNat : Int)
theorem r_and {T T' : TypeId} (hf : Fr n a L) (hx : ev L x = some (.int .i64 p)) (hy : ev L y = some (.int .i64 q)) : (execOp a.eval ⟨dd, .binOp .and T x y T', ty, pos, af, gd⟩).run P w = .ok (.value (.int .i64 (and64 p q))) w := by
  have h : (Op.intBits .and .i64 p q).run P w = .ok (.int .i64 (and64 p q)) w := rfl
  simp only [execOp, hf.ev hx, hf.ev hy, Sem.run_bind]
  simp [eqGuard, binOp, h]
end Go.Proofs.YtB

/- Words of this seat's own: the library's sort of a grid's rows; slices that share a grid's rows. -/
set_option linter.unusedVariables false
set_option linter.unusedSimpArgs false
set_option linter.unusedSectionVars false
namespace Go.Proofs.YtB
open Go Go.RowKit Go.Sort Go.Shelf
open Go.Proofs.YtbhaeajdabgnhaaW.PrintWords
variable {P : Program} {n : Nat} {a : Act} {L : List (Nat × Value)} {w w' w0 ws : World} {Q : Exit → Act → World → Prop} {ops : Array Oper} {rest : List Oper} {o : Oper}
variable {x y : Operand} {p q : Int} {T T' ty : TypeId} {pos : String} {af : Array Edge} {gd : Option (Nat × Bool)} {dd : Option Tmp} {ad : Addr} {k : Nat} {m : Nat}
variable {ρ ρ' ρ0 : Nat → Nat} {i j g e e' B : Nat} {α β : Type} {v u : Value}
variable {d : Fl α} {f f' : Nat → V1} {idx : List Nat} {rows r : List (List α)}
theorem gi_range (rows : List (List α)) : gi (List.range rows.length) rows = rows := by
  apply List.ext_getElem?
  intro j
  unfold gi
  rw [List.getElem?_map]
  rcases Nat.lt_or_ge j rows.length with h | h
  · rw [List.getElem?_range h, Option.map_some, List.getElem?_eq_getElem h, List.getD_eq_getElem?_getD, List.getElem?_eq_getElem h]; rfl
  · rw [List.getElem?_eq_none (by simpa using h), List.getElem?_eq_none h]; rfl
structure Rf (f : Nat → V1) (e : Nat) (ρ : Nat → Nat) (w : World) (B j : Nat) (v : Value) (idx : List Nat) (m : Nat) : Prop where
  out : Ow (kf (fRef f)) e ρ w B j v idx
  lt : ∀ r, r ∈ idx → r < m
theorem Rf.ext (h : Rf f e ρ w B i v idx m) (hE : Ext ρ w ρ' w') : Rf f e ρ' w' B i v idx m := ⟨h.out.ext hE, h.lt⟩
theorem Rf.adv (h : Rf f e ρ w B i v idx m) (hA : Adv j ρ w ρ' w') (hne : i ≠ j) : Rf f e ρ' w' B i v idx m := ⟨h.out.adv hA hne, h.lt⟩
theorem Rf.tr (h : Rf f e ρ w B i v idx m) (hT : Tr i ρ w ρ' w') : Rf f e ρ' w' B i v idx m := ⟨h.out.tr hT, h.lt⟩
theorem Rf.relab (h : Rf f e ρ w B j v idx m) (b : Nat) : Rf f e (relab ρ j b) w B b v idx m := ⟨h.out.relab b, h.lt⟩
theorem Rf.empty {dd : Kd β} (h : Ow dd e ρ w B i v []) (hs : dd.sz = 1) (f : Nat → V1) (m : Nat) : Rf f e ρ w B i v [] m := by
  refine ⟨⟨h.1, ?_⟩, fun r hr => by simp at hr⟩
  obtain ⟨inner, ho, hr⟩ := h.2
  have hin : inner = [] := by have := hr.1; simpa using this
  subst hin
  refine ⟨[], ?_, rfl, fun j p hj => by simp at hj⟩
  show World.ownsRow w B e 1 v _ _
  rw [← hs]
  exact ho
theorem Rf.lt_gl (h : Rf f e ρ w B i v idx m) (h0 : 0 ≤ p) (h1 : p < idx.length) : gl 0 idx p < m := by
  refine h.lt _ ?_
  have hp : p.toNat < idx.length := by omega
  unfold gl
  rw [List.getD_eq_getElem?_getD, List.getElem?_eq_getElem hp]
  exact List.getElem_mem hp
/-- what is handed back: rows of the grid, apart or not -/
theorem Rf.fresh {idx2 : List Nat} {e2 : Nat} (h : Rf f e ρ w w0.heap.size j v idx rows.length) (hG : Gd d e' e2 ρ w w0.heap.size i u f idx2 rows) (hl : ∀ r, lab i r ≠ j) : Fresh (Kd.slice e' (kf d)) e w0 w v (gi idx rows) := by
  obtain ⟨hown, inner, ho, hr⟩ := h.out
  refine ⟨fun _ _ => trivial, inner, by rw [gi_len]; exact ho, by rw [gi_len]; exact hr.1, fun jj p hj => ?_⟩
  simp only [gi, List.getElem?_map, Option.map_eq_some_iff] at hj
  obtain ⟨r, hr', rfl⟩ := hj
  have h2 : (inner.drop (jj * 1)).take 1 = [(f r).1] := hr.2 jj r hr'
  have hrl := h.lt r (List.mem_of_getElem? hr')
  refine ⟨(f r).1, h2, Kd.R_mono (hG.rowAt hrl) (fun k hk => ⟨trivial, fun he => ?_⟩)⟩
  have h7 : ρ k = j := hown k he.symm
  exact hl r (hk.symm.trans h7)
end Go.Proofs.YtB

/- Words of this seat's own: loops round by round; grids made at once; values of literals, reckoned. -/
set_option linter.unusedVariables false
set_option linter.unusedSimpArgs false
set_option linter.unusedSectionVars false
namespace Go.Proofs.YtB
open Go Go.RowKit
open Go.Proofs.YtbhaeajdabgnhaaW.PrintWords
variable {P : Program} {n : Nat} {a : Act} {L : List (Nat × Value)} {w w' w0 ws : World} {Q : Exit → Act → World → Prop} {ops : Array Oper} {rest : List Oper} {o : Oper}
variable {x y : Operand} {p q : Int} {T T' ty : TypeId} {pos : String} {af : Array Edge} {gd : Option (Nat × Bool)} {dd : Option Tmp} {ad : Addr} {k : Nat} {m : Nat}
variable {ρ ρ' ρ0 : Nat → Nat} {i j g e e' B : Nat} {α β : Type} {v u : Value} {d : Fl α}
/-- a loop at its round's start -/
def Lp (P : Program) (c : Code) (Q : Exit → Act → World → Prop) (a : Act) (w : World) : Prop :=
  ∀ (b : Frame) (kk : List Item) (cs : List Frame), ∃ e a' w', Q e a' w' ∧ Arrives P (lone (b.at a (.code c :: .inLoop c :: kk)) cs w) b kk cs e a' w'
def Unr (P : Program) (c : Code) (Q : Exit → Act → World → Prop) (e : Exit) (a : Act) (w : World) : Prop := (e = .normal ∧ Lp P c Q a w) ∨ (e ≠ .normal ∧ Q e a w)
theorem Lp.go {c : Code} (h : c.wp P (Unr P c Q) a w) : Lp P c Q a w := by
  intro b kk cs
  obtain ⟨e, a₁, w₁, hq, harr⟩ := h b (.inLoop c :: kk) cs
  rcases hq with ⟨rfl, hq⟩ | ⟨hne, hq⟩
  · obtain ⟨e₂, a₂, w₂, hq₂, harr₂⟩ := hq b kk cs
    exact ⟨e₂, a₂, w₂, hq₂, .of_steps (Steps.trans harr (.one step_inLoop)) harr₂⟩
  · exact ⟨e, a₁, w₁, hq, .pass (x := .inLoop c) rfl (fun _ _ => .inl hne) harr⟩
/-- make([][]T, n): n rows that are nil, one and the same -/
def nilV : V1 := ⟨.slice none 0 0, rfl⟩
theorem Gd.made (h : Ow (kf (fRef fun _ => nilV)) e ρ w B i v (List.replicate m 0)) (hi : 0 < i ∧ i < 1000) : Gd d e' e ρ w B i v (fun _ => nilV) (List.replicate m 0) [[]] := by
  refine ⟨h, fun r xs hr => ?_, fun r hr => by rw [List.eq_of_mem_replicate hr]; exact Nat.zero_lt_one, hi⟩
  cases r with
  | zero =>
    have : [] = xs := by simpa using hr
    subst this
    exact Ow.nil _ _ _ _ _ _
  | succ r => simp at hr
/-- a literal of two slices, both the call's own: they go into the row -/
theorem r_lit_row2 {α : Type} {d : Kd α} {xs ys : List α} {u1 u2 : Value} {j1 j2 bytes : Nat} {z : Value} {o1 o2 : Operand} (i : Nat) (hT : P.underlying T = some (.slice e)) {e' : Nat} (he : El P e 1 bytes z) (hw : Wd w0 ρ w) (hj1 : j1 ≠ 0) (hj2 : j2 ≠ 0) (hf : Fr n a L) (hx : ev L o1 = some u1) (hy : ev L o2 = some u2) (hu : Ow d e' ρ w w0.heap.size j1 u1 xs) (hv : Ow d e' ρ w w0.heap.size j2 u2 ys) :
    ∃ v w', (execOp a.eval ⟨dd, .buildSlice T 2 #[(0, o1), (1, o2)], ty, pos, af, gd⟩).run P w = .ok (.value v) w' ∧ ∃ ρ', Wd w0 ρ' w' ∧ (∀ b, b ≠ j1 → b ≠ j2 → Tr b ρ w ρ' w') ∧ Below w.heap.size w w' ∧ Ow (Kd.slice e' d) e ρ' w' w0.heap.size i v [xs, ys] := by
  have hc1 : u1.cells = #[u1] := by obtain ⟨A, c, hue⟩ := Kd.R_slice hu; rw [hue]; rfl
  have hc2 : u2.cells = #[u2] := by obtain ⟨A, c, hue⟩ := Kd.R_slice hv; rw [hue]; rfl
  have hr := run_buildSlice (P := P) (vs := [(0, u1), (1, u2)]) (len := 2) (sz := 1) (res := [u1, u2]) hT he (by omega) (fun c hc' => by
    have := fill_all (sz := 1) [] (by simp) [[u1], [u2]] [u1, u2] 0 [] c.toList (by simp) (by simp [hc1, hc2]) (by simp) (by simpa using hc') (by simp)
    simpa using this) w
  have hb : Below w.heap.size w (w.alloc (.cells [u1, u2].toArray e)) := (Below.refl _ _).alloc (Nat.le_refl _) _
  let ρ1 : Nat → Nat := fun k => if k < w.heap.size then (if ρ k = j1 ∨ ρ k = j2 then i else ρ k) else i
  refine ⟨.slice (some ⟨w.heap.size, 0, none⟩) 2 2, w.alloc (.cells [u1, u2].toArray e), by simp [execOp, hf.ev hx, hf.ev hy, hr], ρ1, ⟨hw.below.trans (hb.mono hw.below.size), fun k hk => ?_⟩, fun b hb1 hb2 k hk hρ => ⟨by simp [ρ1, hk, hρ, hb1, hb2], hb.block k hk⟩, hb, ?_⟩
  · rcases Nat.lt_or_ge k w.heap.size with h | h
    · refine hw.own k (fun h0 => hk ?_)
      simp [ρ1, h, h0, Ne.symm hj1, Ne.symm hj2]
    · exact Nat.le_trans hw.below.size h
  · refine lit_ow (d := Kd.slice e' d) (xs := [xs, ys]) (inner := [u1, u2]) (okp := fun k => ρ k = j1 ∨ ρ k = j2) i hw ?_ (by simp) (fun k h1 h2 => by simp [ρ1, h1, h2]) (fun k hk => by simp [ρ1]; omega)
    refine ⟨by simp [Kd.slice], fun t q ht => ?_⟩
    match t, ht with
    | 0, ht =>
      have : xs = q := by simpa using ht
      subst this
      exact ⟨u1, by simp [Kd.slice], Kd.R_mono hu (fun k hk => .inl hk)⟩
    | 1, ht =>
      have : ys = q := by simpa using ht
      subst this
      exact ⟨u2, by simp [Kd.slice], Kd.R_mono hv (fun k hk => .inr hk)⟩
    | t + 2, ht => simp at ht
end Go.Proofs.YtB

