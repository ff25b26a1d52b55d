/- Words of this seat's own: append(nil, make(..)...); cap of nil; literals of slices that are read. -/
import Derived.Test.YtbhaeajdabgnhaaCsB19
import Derived.Lib.AppendZeros
set_option linter.unusedVariables false
set_option linter.unusedSimpArgs false
set_option linter.unusedSectionVars false
namespace Go.Proofs.YtB
open Go Go.RowKit
open Go.Proofs.YtbhaeajdabgnhaaW.PrintWords
variable {P : Program} {n : Nat} {a : Act} {L : List (Nat × Value)} {w w' w0 ws : World} {Q : Exit → Act → World → Prop} {ops : Array Oper} {rest : List Oper} {o : Oper}
variable {x y : Operand} {p q : Int} {T T' Tn ty : TypeId} {pos : String} {af : Array Edge} {gd : Option (Nat × Bool)} {dd : Option Tmp} {ad : Addr} {k : Nat} {cs : List Value} {m : Nat}
variable {ρ ρ' ρ0 : Nat → Nat} {i j g e e' B : Nat} {α : Type} {v u : Value} {xs : List α}
theorem r_cap0 (hT : P.underlying T = some (.slice e)) (hf : Fr n a L) (hx : ev L x = some (.slice none 0 0)) :
    (execOp a.eval ⟨dd, .call ⟨.builtin .cap, #[x], #[T]⟩, ty, pos, af, gd⟩).run P w = .ok (.value (.int .i64 0)) w := by
  simp [execOp, resolve, invoke, builtin, hf.ev hx, Builtin.cap_, run_underlying hT, goInt]
theorem execApp2 {s t : Operand} {vs vt v : Value} (hf : Fr n a L) (hs : ev L s = some vs) (ht : ev L t = some vt) (hr : (Builtin.append_ #[T, Tn] ty #[vs, vt]).run P w = .ok v w') :
    (execOp a.eval ⟨dd, .call ⟨.builtin .append, #[s, t], #[T, Tn]⟩, ty, pos, af, gd⟩).run P w = .ok (.value v) w' := by
  simp [execOp, resolve, invoke, builtin, hf.ev hs, hf.ev ht, hr]
theorem r_app_mk {d : Fl α} {bytes : Nat} {z : Value} {z0 : α} {kn : IntKind} (i : Nat) (hT : P.underlying T = some (.slice e)) (hTn : P.underlying Tn = some (.int kn)) (he : El P e d.n bytes z) (hz : z.cells.toList = d.enc z0) (hw : Wd w0 ρ w) (hf : Fr n a L) (hx : ev L x = some (.slice none 0 0)) (hy : ev L y = some (.int .i64 p)) (h0 : 0 < p) (hl : p.toNat * bytes ≤ 140737488355328) :
    ∃ v w', (execOp a.eval ⟨dd, .call ⟨.builtin .append, #[x, y], #[T, Tn]⟩, ty, pos, af, gd⟩).run P w = .ok (.value v) w' ∧ ∃ ρ', Wd w0 ρ' w' ∧ Ext ρ w ρ' w' ∧ Ow (kf d) e ρ' w' w0.heap.size i v (List.replicate p.toNat z0) := by
  obtain ⟨⟨i0, hi, hz0, hz1, hz2⟩, hzs, hs0, hb0⟩ := he
  obtain ⟨m, rfl⟩ := Int.eq_ofNat_of_zero_le (show 0 ≤ p by omega)
  simp only [Int.toNat_natCast] at hl ⊢
  have hm0 : 0 < m := by omega
  have hm : m ≤ 140737488355328 := Nat.le_trans (Nat.le_mul_of_pos_right _ hb0) hl
  have hr := Go.Lib.run_append_nil_zeros (P := P) w T Tn ty e i0 z .i64 kn hT hTn hi hz0 m hm0 (by rw [hz1]; exact hs0) (by omega) (by rw [hz2]; omega)
  have hge := grownCap_ge w m 0 e
  have hcm : grownCap w m 0 e ≤ maxLen := grownCap_le_maxLen w m 0 e (by simp only [maxLen]; omega)
  have hb : Below w.heap.size w (w.drew.alloc (.cells (Builtin.zeroCells z.cells m ++ Builtin.zeroCells z.cells (grownCap w m 0 e - m)) e)) := ⟨rfl, rfl, rfl, by simp, fun k hk => Go.RowKit.Below.heap_alloc w.drew _ k hk, Nat.le_succ _⟩
  have hmade := Kd.reps_made (R := fun (x : α) cs => cs = d.enc x) hzs hs0 hz m
  have hZm : (madeCells z.cells (m * d.n)).toList = (Builtin.zeroCells z.cells m).toList := by
    unfold madeCells Builtin.zeroCells
    rw [hzs]
  rw [hZm] at hmade
  have hzl : (Builtin.zeroCells z.cells m).toList.length = m * d.n := by have := hmade.1; simpa using this
  refine ⟨_, _, execApp2 hf hx hy hr, ownr ρ w i, hw.new i hb, Ext.new i hb, fun k hk => ?_, (Builtin.zeroCells z.cells m).toList, ⟨by rw [hzl, List.length_replicate]; rfl, .inr ⟨w.heap.size, grownCap w m 0 e, _, by rw [List.length_replicate], hw.below.size, heap_alloc_new w.drew _, by rw [List.length_replicate]; exact hge, hcm, ?_, ?_⟩⟩, hmade⟩
  · have : w.heap.size = k := by simpa [Value.ownBlock] using hk
    subst this
    exact own_new (Nat.le_refl _)
  · show _ = grownCap w m 0 e * d.n
    rw [Array.size_append, size_zeroCells, size_zeroCells, hzs, ← Nat.add_mul]
    congr 1
    omega
  · rw [List.length_replicate, Array.toList_append]
    exact List.take_left' hzl
theorem r_cut_nil {sz : Nat} {z : Operand} (hT : P.underlying T = some (.slice e)) (hs : (P.info? e).map (·.size) = some sz) (hf : Fr n a L) (hx : ev L x = some (.slice none 0 0)) (hz : ev L z = some (.int .i64 0)) :
    (execOp a.eval ⟨dd, .slice T x none (some z) none, ty, pos, af, gd⟩).run P w = .ok (.value (.slice none 0 0)) w := by
  have h := r_cut_v (dd := dd) (ty := ty) (pos := pos) (af := af) (gd := gd) (d := kf (fRaw sz)) (lo := 0) (hi := 0) (ol := none) (oh := some z) hT hs rfl (Ro.nil _ w 0) hf hx (.inl ⟨rfl, rfl⟩) (.inr ⟨z, rfl, hz⟩) (Int.le_refl 0) (Int.le_refl 0) (Int.le_refl _)
  exact h
theorem cl2 {γ : Type} {x y : γ} {r s : List γ} (h : x = y) (h' : r = s) : x :: r = y :: s := by rw [h, h']
theorem Ro.K {d : Kd α} (h : Ro d w u xs) (e : Nat) : (Kd.slice e d).K w xs [u] := by
  obtain ⟨A, c, rfl, h2, h3⟩ := h
  exact ⟨A, c, rfl, h2, h3⟩
end Go.Proofs.YtB
