/- Words of this seat's own: slices that are read, slices of the call's own; len, append, make, cuts, literals, elements. -/
import Derived.Test.YtbhaeajdabgnhaaCsB4
set_option linter.unusedVariables false
set_option linter.unusedSimpArgs false
set_option linter.unusedSectionVars false
namespace Go.Proofs.YtB
open Go Go.RowKit
open Go.Proofs.YtbhaeajdabgnhaaW.PrintWords
variable {P : Program} {n : Nat} {a : Act} {L : List (Nat × Value)} {w w' w0 : World} {Q : Exit → Act → World → Prop} {ops : Array Oper} {rest : List Oper} {o : Oper}
variable {x y : Operand} {p q : Int} {T T' ty : TypeId} {pos : String} {af : Array Edge} {gd : Option (Nat × Bool)} {dd : Option Tmp} {ad : Addr} {k : Nat} {cs : List Value} {m : Nat}
variable {ρ ρ' : Nat → Nat} {i j g e B : Nat} {α β : Type} {d : Kd α} {xs ys : List α} {v u : Value}
/-- elements without memory -/
def kf (d : Fl α) : Kd α where
  sz := d.n
  E := []
  K := fun _ x cs => cs = d.enc x
  M := fun _ _ _ x cs => cs = d.enc x
  K_len := fun h => by rw [h]; exact d.len _
  K_one := fun h u hu => by rw [h] at hu; exact d.one _ u hu
  K_below := fun _ h => h
  K_of_M := fun h => h
  M_mono := fun _ h => h
  M_bound := fun h => h
  M_move := fun _ h => h
  M_lower := fun _ h => h
/-- a slice that is read -/
def Ro (d : Kd α) (w : World) (v : Value) (xs : List α) : Prop := ∃ A c, v = .slice A xs.length c ∧ xs.length ≤ c ∧ d.C w A xs.length xs
/-- a slice of the call's own, i's -/
def Ow (d : Kd α) (e : Nat) (ρ : Nat → Nat) (w : World) (B i : Nat) (v : Value) (xs : List α) : Prop := d.R e w B (fun k => ρ k = i) v xs
theorem Ro.below (h : Ro d w v xs) (hb : Below w.heap.size w w') : Ro d w' v xs := by
  obtain ⟨A, c, h1, h2, h3⟩ := h
  exact ⟨A, c, h1, h2, Kd.C_below h3 hb.k⟩
theorem Ro.now (h : Ro d w0 v xs) (hw : Wd w0 ρ w) : Ro d w v xs := h.below hw.below
theorem Ow.ro (h : Ow d e ρ w B i v xs) : Ro d w v xs := Kd.R_reads h
theorem Ow.adv (h : Ow d e ρ w B j v xs) (hA : Adv i ρ w ρ' w') (hne : j ≠ i) : Ow d e ρ' w' B j v xs := by
  have h1 := Kd.R_bound h
  have h2 := Kd.R_move (w1 := w') h1 (fun k hk => hA.blk k hk.2.2.1 (by rw [hk.1]; exact hne))
  exact Kd.R_mono h2 (fun k hk => (hA.rho k hk.2.2.1).trans hk.1)
theorem Ow.tr (h : Ow d e ρ w B j v xs) (hE : Tr j ρ w ρ' w') : Ow d e ρ' w' B j v xs := by
  have h1 := Kd.R_bound h
  have h2 := Kd.R_move (w1 := w') h1 (fun k hk => (hE k hk.2.2.1 hk.1).2)
  exact Kd.R_mono h2 (fun k hk => (hE k hk.2.2.1 hk.1).1)
theorem Ow.ext (h : Ow d e ρ w B j v xs) (hE : Ext ρ w ρ' w') : Ow d e ρ' w' B j v xs := h.tr fun k h1 h2 => ⟨(hE.rho k h1).trans h2, hE.below.block k h1⟩
theorem Ro.ext (h : Ro d w v xs) (hE : Ext ρ w ρ' w') : Ro d w' v xs := h.below hE.below
theorem Ow.fresh {ok : Nat → Prop} (h : d.R e w' w.heap.size ok v xs) (hB : B ≤ w.heap.size) (i : Nat) : Ow d e (ownr ρ w i) w' B i v xs :=
  Kd.R_lower (Kd.R_mono (Kd.R_bound h) (fun k hk => own_new hk.2.1)) hB
theorem Ow.nil (d : Kd α) (e : Nat) (ρ : Nat → Nat) (w : World) (B i : Nat) : Ow d e ρ w B i (.slice none 0 0) [] := Kd.R_nil d e w B _
theorem Ro.nil (d : Kd α) (w : World) (c : Nat) : Ro d w (.slice none 0 c) [] := ⟨none, c, rfl, Nat.zero_le _, Kd.C_nil d w⟩
theorem Ro.lenle (h : Ro d w v xs) : xs.length ≤ 9223372036854775807 := by
  obtain ⟨A, c, h1, h2, h3⟩ := h
  exact h3.2.1
/-- the call's answer: a slice that it made -/
def Fresh (d : Kd α) (e : Nat) (w0 w' : World) (v : Value) (xs : List α) : Prop := d.R e w' w0.heap.size (fun _ => True) v xs
theorem Ow.out (h : Ow d e ρ w w0.heap.size i v xs) : Fresh d e w0 w v xs := Kd.R_mono h (fun _ _ => trivial)
theorem Fresh.own (h : Fresh d e w w' v xs) (hB : B ≤ w.heap.size) (i : Nat) : Ow d e (ownr ρ w i) w' B i v xs := Ow.fresh h hB i
theorem Fresh.ro (h : Fresh d e w w' v xs) : Ro d w' v xs := Kd.R_reads h

theorem r_len (hT : P.underlying T = some (.slice e)) (hv : Ro d w v xs) (hf : Fr n a L) (hx : ev L x = some v) :
    (execOp a.eval ⟨dd, .call ⟨.builtin .len, #[x], #[T]⟩, ty, pos, af, gd⟩).run P w = .ok (.value (.int .i64 (xs.length : Int))) w := by
  obtain ⟨A, c, rfl, h2, h3⟩ := hv
  simp [execOp, resolve, invoke, builtin, hf.ev hx, Builtin.len_, run_underlying hT, goInt]
def gl (z : α) (xs : List α) (i : Int) : α := xs.getD i.toNat z
/-- the address of an element; what lies there -/
theorem Ro.el (d : Fl α) (h : Ro (kf d) w v xs) (z : α) (h0 : 0 ≤ p) (h1 : p < xs.length) : ∃ ad c, v = .slice (some ad) xs.length c ∧ Cl w ad (p.toNat * d.n) (d.enc (gl z xs p)) := by
  obtain ⟨A, c, rfl, h2, h3⟩ := h
  obtain ⟨ad, cs, rfl, _, hK, hc⟩ := Kd.C_get h3 z p h0 h1
  have hK' : cs = d.enc (xs.getD p.toNat z) := hK
  subst hK'
  exact ⟨ad, c, rfl, hc⟩
/-- the same where elements are slices -/
theorem Ro.el_row {d : Kd β} {xs : List (List β)} (h : Ro (Kd.slice e d) w v xs) (h0 : 0 ≤ p) (h1 : p < xs.length) : ∃ ad c u, v = .slice (some ad) xs.length c ∧ Cl w ad (p.toNat * 1) [u] ∧ Ro d w u (gl [] xs p) := by
  obtain ⟨A, c, rfl, h2, h3⟩ := h
  obtain ⟨ad, cs, rfl, _, hK, hc⟩ := Kd.C_get h3 [] p h0 h1
  obtain ⟨A', c', rfl, hl, hC⟩ := hK
  exact ⟨ad, c, _, rfl, hc, A', c', rfl, hl, hC⟩
theorem r_idx {sz : Nat} (hT : P.underlying T = some (.slice e)) (hs : (P.info? e).map (·.size) = some sz) (hf : Fr n a L) (hx : ev L x = some v) (hv : ∃ c, v = .slice (some ad) m c) (hy : ev L y = some (.int .i64 p)) (h0 : 0 ≤ p) (h1 : p < m) :
    (execOp a.eval ⟨dd, .indexAddr T x y, ty, pos, af, gd⟩).run P w = .ok (.value (.pointer (some (ad.add (p.toNat * sz))))) w := by
  obtain ⟨c, rfl⟩ := hv
  exact r_indexAddr_sl hT hs hf hx hy h0 h1

structure El (P : Program) (e sz bytes : Nat) (z : Value) : Prop where
  i : ∃ i, P.info? e = some i ∧ i.zero = some z ∧ i.size = sz ∧ i.bytes = bytes
  z : z.cells.size = sz
  s : 0 < sz
  b : 0 < bytes
theorem El.mk' {sz bytes : Nat} {z : Value} (h : (P.info? e).map (fun i => (i.zero, i.size, i.bytes)) = some (some z, sz, bytes)) (hz : z.cells.size = sz) (hs : 0 < sz) (hb : 0 < bytes) : El P e sz bytes z := by
  obtain ⟨i, hi, hh⟩ := Option.map_eq_some_iff.1 h
  simp only [Prod.mk.injEq] at hh
  exact ⟨⟨i, hi, hh.1, hh.2.1, hh.2.2⟩, hz, hs, hb⟩
theorem run_app {bytes c : Nat} {z : Value} {Rr : α → List Value → Prop} {ok okp : Nat → Prop} {A : Option Addr} (hT : P.underlying T = some (.slice e)) (he : El P e d.sz bytes z)
    (HO : d.R e w B ok v xs) (HR : ReadsRow Rr d.sz w A m ys) (hKM : ∀ x cs, Rr x cs → d.M w B okp x cs) (hokp : ∀ k, okp k → ok k ∧ some k ≠ v.ownBlock) (hfresh : ∀ k, w.heap.size ≤ k → ok k) (hbase : B ≤ w.heap.size) (hl : (xs.length + m) * bytes ≤ 140737488355328) :
    ∃ v1 w1, (Builtin.append_ #[T, T] ty #[v, .slice A m c]).run P w = .ok v1 w1 ∧ d.R e w1 B ok v1 (xs ++ ys) ∧ w.grownBy w1 v.ownBlock ∧ w.drawn ≤ w1.drawn := by
  obtain ⟨⟨i0, hi, hz0, hz1, hz2⟩, hz, hs0, hb0⟩ := he
  have hm : ys.length = m := HR.1
  have hlen : xs.length + m ≤ 140737488355328 := Nat.le_trans (Nat.le_mul_of_pos_right _ hb0) hl
  obtain ⟨hok, inner, hown, hr⟩ := HO
  cases A with
  | none =>
    have h0 : m = 0 := by
      rcases Nat.eq_zero_or_pos m with h0 | h0
      · exact h0
      · obtain ⟨ad, h, _⟩ := HR.2.2 h0
        cases h
    subst h0
    obtain rfl : ys = [] := List.eq_nil_of_length_eq_zero hm
    refine ⟨v, w, ?_, by rw [List.append_nil]; exact ⟨hok, inner, hown, hr⟩, World.grownBy.refl w _, Nat.le_refl _⟩
    rcases hown.2 with ⟨rfl, hn⟩ | ⟨g, cap, cur, rfl, _, _, hnc, _⟩
    · simp [Builtin.append_, run_underlying hT, sizeOf, typeInfo, hi, Builtin.lenOf, Builtin.firstCells]
    · simp [Builtin.append_, run_underlying hT, sizeOf, typeInfo, hi, Builtin.lenOf, Builtin.firstCells, hnc, storeCells]
  | some ad =>
    obtain ⟨news, hnr, hnc⟩ := ReadsRow.inner_ HR
    have hnM : Reps (d.M w B okp) d.sz ys news := hnr.imp_ (fun p c hp => hKM p c hp)
    have hone : ∀ u ∈ news, u.oneCell' = true := by
      intro u hu
      obtain ⟨q, hq, rfl⟩ := List.mem_iff_getElem.1 hu
      have hql : q / d.sz < ys.length := by
        rw [Nat.div_lt_iff_lt_mul hs0, ← hnM.1]
        exact hq
      refine d.K_one (d.K_of_M (hnM.2 (q / d.sz) _ (List.getElem?_eq_getElem hql))) _ ?_
      rw [List.mem_iff_getElem?]
      refine ⟨q % d.sz, ?_⟩
      rw [List.getElem?_take, if_pos (Nat.mod_lt _ hs0), List.getElem?_drop, Nat.mul_comm, Nat.div_add_mod, List.getElem?_eq_getElem hq]
    obtain ⟨v1, w1, hrun, h2, hg, _, hat⟩ := run_append_own_at (P := P) w B T ty e i0 z d.sz bytes hT hi hz0 hz1 hz2 hz hs0 v xs.length inner hown ad m c news (by rw [hnM.1, hm]) hnc hone (by simp only [maxLen]; omega) hl hbase
    have hne : ∀ k, some k ≠ v.ownBlock → k < w.heap.size → some k ≠ v1.ownBlock := by
      intro k hk hlt
      rcases hat with hat | hb
      · rw [hat]; exact hk
      · rw [hb]
        intro he
        injection he with he
        omega
    have step : ∀ {q : α} {c : List Value} {o : Nat → Prop}, d.M w B o q c → (∀ k, o k → ok k ∧ some k ≠ v.ownBlock) → d.M w1 B (fun k => ok k ∧ some k ≠ v1.ownBlock) q c := by
      intro q c o hq ho
      have h1 := d.M_move (w1 := w1) (fun k hk => hg.block k hk.2.2.1 (ho k hk.1).2) (d.M_bound hq)
      exact d.M_mono (fun k hk => ⟨(ho k hk.1).1, hne k (ho k hk.1).2 hk.2.2.1⟩) h1
    refine ⟨v1, w1, hrun, ⟨fun k hk => ?_, inner ++ news, by rw [List.length_append, hm]; exact h2, Kd.reps_append (hr.imp_ (fun _ _ hq => step hq (fun _ hk => hk))) (hnM.imp_ (fun _ _ hq => step hq hokp))⟩, hg, run_drawn _ _ hrun⟩
    rcases hat with hat | hb
    · exact hok k (hat ▸ hk)
    · rw [hb] at hk
      injection hk with hk
      exact hfresh k (by omega)
theorem execApp {s t : Operand} {vs vt : Value} (hf : Fr n a L) (hs : ev L s = some vs) (ht : ev L t = some vt) {r : Result Value} (hr : (Builtin.append_ #[T, T] ty #[vs, vt]).run P w = r) :
    (execOp a.eval ⟨dd, .call ⟨.builtin .append, #[s, t], #[T, T]⟩, ty, pos, af, gd⟩).run P w = r.andThen fun v w' => .ok (.value v) w' := by
  simp [execOp, resolve, invoke, builtin, hf.ev hs, hf.ev ht, hr]
theorem Wd.grown (hw : Wd w0 ρ w) (hg : w.grownBy w' u.ownBlock) (hk : ∀ k, u.ownBlock = some k → ρ k = i) (hi : i ≠ 0) (hd : w.drawn ≤ w'.drawn) : Wd w0 (ownr ρ w i) w' ∧ Adv i ρ w (ownr ρ w i) w' := by
  refine ⟨⟨hw.below.grown hg hw.below.size (fun k h => hw.own k (by rw [hk k h]; exact hi)) hd, fun k h => ?_⟩, ⟨hg.size, fun k h => own_old h, fun k h hne => hg.block k h (fun he => hne (hk k he.symm))⟩⟩
  rcases Nat.lt_or_ge k w.heap.size with h1 | h1
  · rw [own_old h1] at h; exact hw.own k h
  · exact Nat.le_trans hw.below.size h1
/-- append(v, ys...), elements without memory -/
theorem r_append {d : Fl α} {bytes : Nat} {z : Value} (hT : P.underlying T = some (.slice e)) (he : El P e d.n bytes z) (hw : Wd w0 ρ w) (hi : i ≠ 0) (hv : Ow (kf d) e ρ w w0.heap.size i v xs) (hu : Ro (kf d) w u ys)
    (hl : (xs.length + ys.length) * bytes ≤ 140737488355328) (hf : Fr n a L) (hx : ev L x = some v) (hy : ev L y = some u) :
    ∃ v1 w1, (execOp a.eval ⟨dd, .call ⟨.builtin .append, #[x, y], #[T, T]⟩, ty, pos, af, gd⟩).run P w = .ok (.value v1) w1 ∧ ∃ ρ', Wd w0 ρ' w1 ∧ Adv i ρ w ρ' w1 ∧ Ow (kf d) e ρ' w1 w0.heap.size i v1 (xs ++ ys) := by
  obtain ⟨A, c, rfl, _, hC⟩ := hu
  have hO : (kf d).R e w w0.heap.size (fun k => ownr ρ w i k = i) v xs := Kd.R_mono (Kd.R_bound hv) (fun k hk => (own_old hk.2.2.1).trans hk.1)
  obtain ⟨v1, w1, hr, h1, hg, hdr⟩ := run_app (d := kf d) (okp := fun _ => False) (c := c) (ty := ty) hT he hO hC (fun x cs h => h) (fun _ h => h.elim) (fun k hk => own_new hk) hw.below.size hl
  obtain ⟨h2, h3⟩ := hw.grown hg (fun k hk => hv.1 k hk) hi hdr
  exact ⟨v1, w1, by rw [execApp hf hx hy hr]; rfl, _, h2, h3, h1⟩
/-- append(v, ys...), elements that are slices; the row of the new ones is the call's own (j's), and goes into it -/
theorem r_append_own {d : Kd α} {bytes : Nat} {z : Value} (hT : P.underlying T = some (.slice e)) (he : El P e d.sz bytes z) (hw : Wd w0 ρ w) (hi : i ≠ 0) (hj : j ≠ 0) (hij : i ≠ j) (hv : Ow d e ρ w w0.heap.size i v xs) (hu : Ow d e ρ w w0.heap.size j u ys)
    (hl : (xs.length + ys.length) * bytes ≤ 140737488355328) (hf : Fr n a L) (hx : ev L x = some v) (hy : ev L y = some u) :
    ∃ v1 w1, (execOp a.eval ⟨dd, .call ⟨.builtin .append, #[x, y], #[T, T]⟩, ty, pos, af, gd⟩).run P w = .ok (.value v1) w1 ∧ ∃ ρ', Wd w0 ρ' w1 ∧ (∀ b, b ≠ i → b ≠ j → Tr b ρ w ρ' w1) ∧ Ow d e ρ' w1 w0.heap.size i v1 (xs ++ ys) := by
  obtain ⟨A, c, rfl, _, hC⟩ := OwnRow.reads hu.2
  let ρ1 : Nat → Nat := fun k => if k < w.heap.size then (if ρ k = j then i else ρ k) else i
  have e1 : ∀ k, k < w.heap.size → ρ k = i → ρ1 k = i := fun k h1 h2 => by simp [ρ1, h1, h2]
  have e2 : ∀ k, k < w.heap.size → ρ k = j → ρ1 k = i := fun k h1 h2 => by simp [ρ1, h1, h2]
  have hO : d.R e w w0.heap.size (fun k => ρ1 k = i) v xs := Kd.R_mono (Kd.R_bound hv) (fun k hk => e1 k hk.2.2.1 hk.1)
  obtain ⟨v1, w1, hr, h1, hg, hdr⟩ := run_app (d := d) (c := c) (ty := ty) (okp := fun k => ρ k = j ∧ k < w.heap.size) hT he hO hC (fun x cs h => d.M_mono (fun k hk => ⟨hk.1.1, hk.2.2.1⟩) (d.M_bound h))
    (fun k hk => ⟨e2 k hk.2 hk.1, fun he => by have := hv.1 k he.symm; omega⟩) (fun k hk => by simp [ρ1]; omega) hw.below.size hl
  have hb : ∀ k, k < w.heap.size → ρ k ≠ i → w1.heap[k]? = w.heap[k]? := fun k h hne => hg.block k h (fun he => hne (hv.1 k he.symm))
  refine ⟨v1, w1, by rw [execApp hf hx hy hr]; rfl, ρ1, ⟨hw.below.grown hg hw.below.size (fun k h => hw.own k (by rw [hv.1 k h]; exact hi)) hdr, fun k h => ?_⟩, fun b hbi hbj k hk hρ => ⟨by simp [ρ1, hk, hρ, hbj], hb k hk (by omega)⟩, h1⟩
  rcases Nat.lt_or_ge k w.heap.size with h2 | h2
  · refine hw.own k (fun h0 => h ?_)
    simp [ρ1, h2, h0, Ne.symm hj]
  · exact Nat.le_trans hw.below.size h2
end Go.Proofs.YtB
