/- Words of this seat's own: cuts of slices, stores into elements of one's own slices, equality of arrays and structs. -/
import Derived.Test.YtbhaeajdabgnhaaCsB6
set_option linter.unusedVariables false
set_option linter.unusedSimpArgs false
set_option linter.unusedSectionVars false
namespace Go.Proofs.YtB
open Go Go.RowKit
open Go.Proofs.YtbhaeajdabgnhaaW.PrintWords
variable {P : Program} {n : Nat} {a : Act} {L : List (Nat × Value)} {w w' w0 : World} {Q : Exit → Act → World → Prop} {ops : Array Oper} {rest : List Oper} {o : Oper}
variable {x y : Operand} {p q : Int} {T T' ty : TypeId} {pos : String} {af : Array Edge} {gd : Option (Nat × Bool)} {dd : Option Tmp} {ad : Addr} {k : Nat} {cs : List Value} {m : Nat}
variable {ρ ρ' : Nat → Nat} {i j g e B : Nat} {α β : Type} {d : Kd α} {xs ys : List α} {v u : Value}
theorem setCells_drawn (g : Nat) : ∀ (vs : List Value) (o : Nat) (w : World), (w.setCells g o vs).drawn = w.drawn
  | [], _, _ => rfl
  | v :: r, o, w => setCells_drawn g r (o + 1) (w.setCell ⟨g, o, none⟩ v)
theorem cut_run {sz lo hi : Nat} {A : Option Addr} {c : Nat} {ql qh : Option Value} (hT : P.underlying T = some (.slice e)) (hs : (P.info? e).map (·.size) = some sz)
    (hl : (ql = none ∧ lo = 0) ∨ (ql = some (.int .i64 (lo : Int)))) (hh : (qh = none ∧ hi = m) ∨ (qh = some (.int .i64 (hi : Int)))) (h1 : lo ≤ hi) (h2 : hi ≤ m) (h3 : m ≤ c) (w : World) :
    (Instr.sliceAt T (.slice A m c) ql qh none).run P w = .ok (.slice (if c = lo then A else A.map (·.add (lo * sz))) (hi - lo) (c - lo)) w := by
  have hel : P.elem T = e := by simp [Program.elem, hT]
  have hu : P.underlying T = some (.slice (P.elem T)) := by rw [hel]; exact hT
  obtain ⟨i0, h4, h5⟩ := Option.map_eq_some_iff.1 hs
  rw [run_sliceAt_slice w T _ _ _ _ hu]
  rcases hl with ⟨rfl, rfl⟩ | rfl <;> rcases hh with ⟨rfl, rfl⟩ | rfl
  · simp only [Instr.slice, Sem.run_bind, run_underlying hT, Result.andThen_ok]
    have ha : (A.map fun x => x.add 0) = A := by cases A <;> simp [Addr.add]
    simp [Instr.sliceBounds, sizeOf, typeInfo, h4, h5, ha]
  · have ha : (A.map fun x => x.add 0) = A := by cases A <;> simp [Addr.add]
    rw [run_slice_h w T A m c hu .i64 (hi : Int) (by omega) (by omega), hel]
    simp [sizeOf, typeInfo, h4, h5, sliced, Result.andThen, ha]
  · rw [run_slice_l w T A _ c hu .i64 (lo : Int) (by omega) (by omega), hel]
    simp [sizeOf, typeInfo, h4, h5, sliced, Result.andThen]
  · rw [run_slice_lh w T A m c hu .i64 .i64 (lo : Int) (hi : Int) (by omega) (by omega) (by omega), hel]
    simp [sizeOf, typeInfo, h4, h5, sliced, Result.andThen]
theorem ro_cut {A : Option Addr} {c lo hi : Nat} (hv : Ro d w (.slice A xs.length c) xs) (h1 : lo ≤ hi) (h2 : hi ≤ xs.length) : Ro d w (.slice (if c = lo then A else A.map (·.add (lo * d.sz))) (hi - lo) (c - lo)) ((xs.take hi).drop lo) := by
  obtain ⟨A', c', he, hc, hC⟩ := hv
  injection he with e1 e2 e3
  subst e1; subst e3
  have hl : ((xs.take hi).drop lo).length = hi - lo := by simp; omega
  refine ⟨_, c - lo, by rw [hl], by rw [hl]; omega, Kd.C_mid hC h1 h2 hc⟩
/-- out[i] = u, out[i].f = u, out[i].f[j] = u: a store into a part of an element -/
theorem r_store_el {d : Fl α} {d' : Fl β} {off : Nat} {gt : α → β} {s : α → β → α} {b : β} {c : Nat} {ag : Bool} (z : α) (hw : Wd w0 ρ w) (hi : i ≠ 0) (hv : Ow (kf d) e ρ w w0.heap.size i v xs) (h0 : 0 ≤ p) (h1 : p < xs.length) (hl : Lens d d' off gt s) (hve : v = .slice (some ad) xs.length c) (hT : Ty P T d'.n ag)
    (hf : Fr n a L) (hx : ev L x = some (.pointer (some (ad.add (p.toNat * d.n + off))))) (hy : ev L y = some u) (hu : u.cells.toList = d'.enc b) :
    ∃ w', (execOp a.eval ⟨dd, .store T x y, ty, pos, af, gd⟩).run P w = .ok .skip w' ∧ Wd w0 ρ w' ∧ Adv i ρ w ρ w' ∧ Ow (kf d) e ρ w' w0.heap.size i v (xs.set p.toNat (s (gl z xs p) b)) := by
  subst hve
  obtain ⟨g, cap, he, hb, hlt, cells, hcells⟩ := Kd.R_form hv (by omega)
  injection he with e1 _ e3
  injection e1 with e1
  subst e1; subst e3
  obtain ⟨ad', c', hve', hcl⟩ := Ro.el d hv.ro z h0 h1
  injection hve' with e1 _ _
  injection e1 with e1
  subst e1
  have hfit := hl.fit
  have hseg := Kd.R_seg (x' := s (gl z xs p) b) (okp := fun _ => False) hv p h0 h1 (c := d.enc (gl z xs p)) (seg := d'.enc b) (j := off) (d.len _) (fun j u hj => by have := hcl j u hj; rwa [add_plain] at this) (by rw [d'.len]; exact hfit)
    (by show _ = d.enc _; rw [d'.len]; exact hl.set _ _) (fun _ h => h.elim)
  obtain ⟨hrow, hg⟩ := hseg
  have hown : ρ g = i := hv.1 g (by simp [Value.ownBlock])
  refine ⟨_, ?_, ⟨hw.below.grown hg hw.below.size (fun k hk => ?_) (Nat.le_of_eq (setCells_drawn _ _ _ _).symm), hw.own⟩, ⟨hg.size, fun _ _ => rfl, fun k h hne => hg.block k h (fun he => ?_)⟩, hrow⟩
  · have hfitw : p.toNat * d.n + off + (d'.enc b).length ≤ cells.size := by
      obtain ⟨inner, ho⟩ := Kd.R_own hv
      rcases ho.2 with ⟨hv', _⟩ | ⟨g', cap', cur, hv', _, hh, hnc, _, hcs, _⟩
      · cases hv'
      · injection hv' with ha _ hc
        injection ha with ha
        injection ha with hg'
        subst hg'
        rw [hh] at hcells
        injection hcells with hcells
        injection hcells with hcells
        subst hcells
        rw [hcs, d'.len]
        have h5 : p.toNat * d.n + d.n ≤ xs.length * d.n := by rw [← Nat.succ_mul]; exact Nat.mul_le_mul_right _ (by omega)
        have h6 : xs.length * d.n ≤ cap' * d.n := Nat.mul_le_mul_right _ hnc
        show _ ≤ cap' * d.n
        omega
    have hT2 : (P.info? T).map (·.size) = some (d'.enc b).length := by
      obtain ⟨i1, h7, h8⟩ := hT.s
      rw [h7, d'.len, ← h8]; rfl
    have hr := run_store_run T u (d'.enc b) hcells hu hT2 hfitw (d'.one b)
    simp only [execOp, hf.ev hx, hf.ev hy, add_plain]
    show ((Instr.storeAt T _ u >>= fun _ => pure Next.skip).run P w) = _
    rw [Sem.run_bind, hr]
    rfl
  · injection hk with hk
    subst hk
    exact hw.own g (by rw [hown]; exact hi)
  · injection he with he
    subst he
    exact hne hown

theorem r_eq {d : Fl α} [DecidableEq α] {val : α → Value} {p q : α} (h : ∀ (x y : α) (w : World), (Op.equal T (val x) (val y)).run P w = .ok (decide (x = y)) w) (hag : ∃ c : α → Array Value, val = fun x => .agg (c x)) (hgt : P.eqGuardType P.depth T = false) (hf : Fr n a L) (hx : ev L x = some (val p)) (hy : ev L y = some (val q)) :
    (execOp a.eval ⟨dd, .binOp .eql T x y T', ty, pos, af, gd⟩).run P w = .ok (.value (.bool (decide (p = q)))) w := by
  obtain ⟨c, rfl⟩ := hag
  simp only [execOp, hf.ev hx, hf.ev hy]
  have := h p q w
  simp only at this
  simp [eqGuard, hgt, binOp, this]
end Go.Proofs.YtB
