/- Words of this seat's own: one operation of a region; what the operations on numbers and truth values answer. -/
import Derived.Test.YtbhaeajdabgnhaaCsB1
set_option linter.unusedVariables false
set_option linter.unusedSimpArgs false
set_option linter.unusedSectionVars false
namespace Go.Proofs.YtB
open Go Go.RowKit
variable {P : Program} {n : Nat} {a : Act} {L : List (Nat × Value)} {w w' : World} {Q : Exit → Act → World → Prop} {ops : Array Oper} {rest : List Oper} {o : Oper}
theorem st {d : Nat} {v : Value} (hf : Fr n a L) (hg : o.guard = none) (hd : o.dst = some d) (hn : d < n) (hr : (execOp a.eval o).run P w = .ok (.value v) w')
    (h : ∀ a', Fr n a' ((d, v) :: L) → wpList P ops Q rest a' w') : wpList P ops Q (o :: rest) a w := by
  refine wpList_plain hg fun K hK => ?_
  unfold Oper.wp
  rw [hr]
  refine hK _ _ (h _ ?_)
  rw [hd]
  exact hf.put d hn v
/-- the same, the value told by what holds of it -/
theorem st_ex {d : Nat} {Φ : Value → World → Prop} (hf : Fr n a L) (hg : o.guard = none) (hd : o.dst = some d) (hn : d < n) (hr : ∃ v w', (execOp a.eval o).run P w = .ok (.value v) w' ∧ Φ v w')
    (h : ∀ a' v w', Fr n a' ((d, v) :: L) → Φ v w' → wpList P ops Q rest a' w') : wpList P ops Q (o :: rest) a w := by
  obtain ⟨v, w', hr, hΦ⟩ := hr
  exact st hf hg hd hn hr fun a' hf' => h a' v w' hf' hΦ
theorem st_skip {Φ : World → Prop} (hf : Fr n a L) (hg : o.guard = none) (hd : o.dst = none) (hr : ∃ w', (execOp a.eval o).run P w = .ok .skip w' ∧ Φ w')
    (h : ∀ a' w', Fr n a' L → Φ w' → wpList P ops Q rest a' w') : wpList P ops Q (o :: rest) a w := by
  obtain ⟨w', hr, hΦ⟩ := hr
  refine wpList_plain hg fun K hK => ?_
  unfold Oper.wp
  rw [hr]
  refine hK _ _ (h _ _ ?_ hΦ)
  rw [hd]
  exact hf
theorem st_call {d : Nat} {f : FuncId} {args : Array Value} {Φ : Value → World → Prop} (hf : Fr n a L) (hg : o.guard = none) (hd : o.dst = some d) (hn : d < n) (hr : (execOp a.eval o).run P w = .ok (.enter f args) w)
    (hc : Calls P f args w fun e w' => ∃ v, e = .returned v ∧ Φ v w') (h : ∀ a' v w', Fr n a' ((d, v) :: L) → Φ v w' → wpList P ops Q rest a' w') : wpList P ops Q (o :: rest) a w := by
  refine wpList_plain hg fun K hK => ?_
  unfold Oper.wp
  rw [hr]
  refine hc.mono ?_
  rintro e w' ⟨v, rfl, hΦ⟩
  refine hK _ _ (h _ v w' ?_ hΦ)
  rw [hd]
  exact hf.put d hn v
/-- a guarded operation: wanted, or passed over -/
theorem yield_of {j d : Nat} {b : Bool} (hf : Fr n a L) (hj : (ops[j]?).bind (·.dst) = some d) (hd : look L d = some (.bool b)) : yielded ops a.tmps j = some b := by
  have := hf.l d _ hd
  simp [yielded, hj, this]
theorem wants {j d : Nat} {b : Bool} (hf : Fr n a L) (hg : o.guard = some (j, b)) (hj : (ops[j]?).bind (·.dst) = some d) (hd : look L d = some (.bool b)) : Region.wanted o (yielded ops a.tmps) = true := by
  simp [Region.wanted, hg, yield_of hf hj hd]
theorem st_no {j d t : Nat} {b b' : Bool} (hf : Fr n a L) (hg : o.guard = some (j, !b)) (hj : (ops[j]?).bind (·.dst) = some d) (hd : look L d = some (.bool b')) (hb : b' = b) (ht : o.dst = some t) (hn : t < n)
    (h : ∀ a', Fr n a' ((t, undef) :: L) → wpList P ops Q rest a' w) : wpList P ops Q (o :: rest) a w := by
  subst hb
  have hw : Region.wanted o (yielded ops a.tmps) = false := by
    simp [Region.wanted, hg, yield_of hf hj hd]
  refine wpList_step fun K hK => ?_
  rw [if_neg (by simp [hw])]
  refine hK _ _ (h _ ?_)
  rw [ht]
  exact hf.put t hn undef
theorem st_g {j d t : Nat} {b b' : Bool} {v : Value} (hf : Fr n a L) (hg : o.guard = some (j, b)) (hj : (ops[j]?).bind (·.dst) = some d) (hd : look L d = some (.bool b')) (hb : b' = b) (ht : o.dst = some t) (hn : t < n) (hr : (execOp a.eval o).run P w = .ok (.value v) w')
    (h : ∀ a', Fr n a' ((t, v) :: L) → wpList P ops Q rest a' w') : wpList P ops Q (o :: rest) a w := by
  subst hb
  have hw := wants (o := o) hf hg hj hd
  refine wpList_step fun K hK => ?_
  rw [if_pos hw]
  unfold Oper.wp
  rw [hr]
  refine hK _ _ (h _ ?_)
  rw [ht]
  exact hf.put t hn v
theorem st_gex {j d t : Nat} {b b' : Bool} {Φ : Value → World → Prop} (hf : Fr n a L) (hg : o.guard = some (j, b)) (hj : (ops[j]?).bind (·.dst) = some d) (hd : look L d = some (.bool b')) (hb : b' = b) (ht : o.dst = some t) (hn : t < n) (hr : ∃ v w', (execOp a.eval o).run P w = .ok (.value v) w' ∧ Φ v w')
    (h : ∀ a' v w', Fr n a' ((t, v) :: L) → Φ v w' → wpList P ops Q rest a' w') : wpList P ops Q (o :: rest) a w := by
  obtain ⟨v, w', hr, hΦ⟩ := hr
  exact st_g hf hg hj hd hb ht hn hr fun a' hf' => h a' v w' hf' hΦ
theorem st_gcall {j d t : Nat} {b b' : Bool} {f : FuncId} {args : Array Value} {Φ : Value → World → Prop} (hf : Fr n a L) (hg : o.guard = some (j, b)) (hj : (ops[j]?).bind (·.dst) = some d) (hd : look L d = some (.bool b')) (hb : b' = b) (ht : o.dst = some t) (hn : t < n) (hr : (execOp a.eval o).run P w = .ok (.enter f args) w)
    (hc : Calls P f args w fun e w' => ∃ v, e = .returned v ∧ Φ v w') (h : ∀ a' v w', Fr n a' ((t, v) :: L) → Φ v w' → wpList P ops Q rest a' w') : wpList P ops Q (o :: rest) a w := by
  subst hb
  have hw := wants (o := o) hf hg hj hd
  refine wpList_step fun K hK => ?_
  rw [if_pos hw]
  unfold Oper.wp
  rw [hr]
  refine hc.mono ?_
  rintro e w' ⟨v, rfl, hΦ⟩
  refine hK _ _ (h _ v w' ?_ hΦ)
  rw [ht]
  exact hf.put t hn v

theorem of_ite {α : Type} {b : Bool} {x y : Option α} {r : α} (h : (if b = true then x else y) = some r) : (b = true ∧ x = some r) ∨ (b = false ∧ y = some r) := by
  cases b with
  | true => exact .inl ⟨rfl, h⟩
  | false => exact .inr ⟨rfl, h⟩
theorem of_guard {α : Type} {c : Prop} [Decidable c] {x : Option α} {r : α} (h : (if c then x else none) = some r) : c ∧ x = some r := by
  by_cases hc : c
  · rw [if_pos hc] at h; exact ⟨hc, h⟩
  · rw [if_neg hc] at h; cases h
theorem of_bind {α β : Type} {x : Option α} {f : α → Option β} {r : β} (h : x.bind f = some r) : ∃ y, x = some y ∧ f y = some r := by
  cases x with
  | none => cases h
  | some y => exact ⟨y, rfl, h⟩

variable {x y : Operand} {p q : Int} {k : IntKind} {T T' ty : TypeId} {pos : String} {af : Array Edge} {gd : Option (Nat × Bool)} {dd : Option Tmp}
def w64 (x : Int) : Int := IntKind.i64.wrap x
theorem w64_id {x : Int} (h0 : -9223372036854775808 ≤ x) (h1 : x ≤ 9223372036854775807) : w64 x = x := IntWalk.i64_in _ (by omega)
def u8 (x : Int) : UInt8 := UInt8.ofNat (x % 256).toNat
theorem u8_wrap (x : Int) : ((u8 x).toNat : Int) = IntKind.u8.wrap x := by
  have h := Int.emod_nonneg x (show (256 : Int) ≠ 0 by omega)
  have h2 := Int.emod_lt_of_pos x (show (0 : Int) < 256 by omega)
  have e : (u8 x).toNat = (x % 256).toNat := by
    unfold u8
    rw [UInt8.toNat_ofNat']
    omega
  rw [e, Int.toNat_of_nonneg h]
  simp [IntKind.wrap, IntKind.signed, IntKind.bits]
theorem r_move {v : Value} (hf : Fr n a L) (hx : ev L x = some v) : (execOp a.eval ⟨dd, .move x, ty, pos, af, gd⟩).run P w = .ok (.value v) w := by
  simp [execOp, hf.ev hx]
theorem r_assign {v : Value} (hf : Fr n a L) (hx : ev L x = some v) : (execOp a.eval ⟨dd, .assign x, ty, pos, af, gd⟩).run P w = .ok (.value v) w := by
  simp [execOp, hf.ev hx]
theorem r_pick {c : Operand} {b b' : Bool} {v : Value} (hf : Fr n a L) (hc : ev L c = some (.bool b')) (hb : b' = b) (hx : ev L (if b then x else y) = some v) : (execOp a.eval ⟨dd, .pick c x y, ty, pos, af, gd⟩).run P w = .ok (.value v) w := by
  subst hb
  cases b'
  · simp [execOp, hf.ev hc, asBool, hf.ev (x := y) hx]
  · simp [execOp, hf.ev hc, asBool, hf.ev (x := x) hx]
theorem r_add (hf : Fr n a L) (hx : ev L x = some (.int .i64 p)) (hy : ev L y = some (.int .i64 q)) : (execOp a.eval ⟨dd, .binOp .add T x y T', ty, pos, af, gd⟩).run P w = .ok (.value (.int .i64 (w64 (p + q)))) w := by
  simp [execOp, hf.ev hx, hf.ev hy, eqGuard, binOp, Op.intArith, w64]
theorem r_sub (hf : Fr n a L) (hx : ev L x = some (.int .i64 p)) (hy : ev L y = some (.int .i64 q)) : (execOp a.eval ⟨dd, .binOp .sub T x y T', ty, pos, af, gd⟩).run P w = .ok (.value (.int .i64 (w64 (p - q)))) w := by
  simp [execOp, hf.ev hx, hf.ev hy, eqGuard, binOp, Op.intArith, w64]
theorem r_mul (hf : Fr n a L) (hx : ev L x = some (.int .i64 p)) (hy : ev L y = some (.int .i64 q)) : (execOp a.eval ⟨dd, .binOp .mul T x y T', ty, pos, af, gd⟩).run P w = .ok (.value (.int .i64 (w64 (p * q)))) w := by
  simp [execOp, hf.ev hx, hf.ev hy, eqGuard, binOp, Op.intArith, w64]
theorem r_rem (hf : Fr n a L) (hx : ev L x = some (.int .i64 p)) (hy : ev L y = some (.int .i64 q)) (h0 : q ≠ 0) : (execOp a.eval ⟨dd, .binOp .rem T x y T', ty, pos, af, gd⟩).run P w = .ok (.value (.int .i64 (p.tmod q))) w := by
  simp [execOp, hf.ev hx, hf.ev hy, eqGuard, binOp, Op.intDiv, h0]
theorem r_lss (hf : Fr n a L) (hx : ev L x = some (.int k p)) (hy : ev L y = some (.int k q)) : (execOp a.eval ⟨dd, .binOp .lss T x y T', ty, pos, af, gd⟩).run P w = .ok (.value (.bool (decide (p < q)))) w := by
  simp [execOp, hf.ev hx, hf.ev hy, eqGuard, binOp, Op.intCmp]
theorem r_leq (hf : Fr n a L) (hx : ev L x = some (.int k p)) (hy : ev L y = some (.int k q)) : (execOp a.eval ⟨dd, .binOp .leq T x y T', ty, pos, af, gd⟩).run P w = .ok (.value (.bool (decide (p ≤ q)))) w := by
  simp [execOp, hf.ev hx, hf.ev hy, eqGuard, binOp, Op.intCmp]
theorem r_gtr (hf : Fr n a L) (hx : ev L x = some (.int k p)) (hy : ev L y = some (.int k q)) : (execOp a.eval ⟨dd, .binOp .gtr T x y T', ty, pos, af, gd⟩).run P w = .ok (.value (.bool (decide (q < p)))) w := by
  simp [execOp, hf.ev hx, hf.ev hy, eqGuard, binOp, Op.intCmp]
theorem r_geq (hf : Fr n a L) (hx : ev L x = some (.int k p)) (hy : ev L y = some (.int k q)) : (execOp a.eval ⟨dd, .binOp .geq T x y T', ty, pos, af, gd⟩).run P w = .ok (.value (.bool (decide (q ≤ p)))) w := by
  simp [execOp, hf.ev hx, hf.ev hy, eqGuard, binOp, Op.intCmp]
theorem r_eql (hf : Fr n a L) (hx : ev L x = some (.int k p)) (hy : ev L y = some (.int k q)) : (execOp a.eval ⟨dd, .binOp .eql T x y T', ty, pos, af, gd⟩).run P w = .ok (.value (.bool (decide (p = q)))) w := by
  simp only [execOp, hf.ev hx, hf.ev hy]
  simp [eqGuard, binOp, Op.intCmp]
  exact Bool.eq_iff_iff.2 (by simp)
theorem r_neq (hf : Fr n a L) (hx : ev L x = some (.int k p)) (hy : ev L y = some (.int k q)) : (execOp a.eval ⟨dd, .binOp .neq T x y T', ty, pos, af, gd⟩).run P w = .ok (.value (.bool (decide (p ≠ q)))) w := by
  simp only [execOp, hf.ev hx, hf.ev hy]
  simp [eqGuard, binOp, Op.intCmp]
  exact Bool.eq_iff_iff.2 (by simp)
theorem r_not {b : Bool} (hf : Fr n a L) (hx : ev L x = some (.bool b)) : (execOp a.eval ⟨dd, .unOp .not T x, ty, pos, af, gd⟩).run P w = .ok (.value (.bool (!b))) w := by
  simp [execOp, hf.ev hx, Op.unary]
theorem r_conv_u8_i64 {b : UInt8} (hT : P.underlying T = some (.int .u8)) (hT' : P.underlying T' = some (.int .i64)) (hf : Fr n a L) (hx : ev L x = some (.int .u8 (b.toNat : Int))) : (execOp a.eval ⟨dd, .convert T T' x, ty, pos, af, gd⟩).run P w = .ok (.value (.int .i64 (b.toNat : Int))) w := by
  have hb := b.toNat_lt
  have e : IntKind.i64.wrap (b.toNat : Int) = (b.toNat : Int) := IntWalk.i64_in _ (by omega)
  simp [execOp, hf.ev hx, convert, run_underlying hT, run_underlying hT', Conv.intToInt, e]
theorem r_conv_i64_u8 (hT : P.underlying T = some (.int .i64)) (hT' : P.underlying T' = some (.int .u8)) (hf : Fr n a L) (hx : ev L x = some (.int .i64 p)) : (execOp a.eval ⟨dd, .convert T T' x, ty, pos, af, gd⟩).run P w = .ok (.value (.int .u8 ((u8 p).toNat : Int))) w := by
  simp [execOp, hf.ev hx, convert, run_underlying hT, run_underlying hT', Conv.intToInt, u8_wrap]
theorem r_extract {vs : Array Value} {i : Nat} {v : Value} (hf : Fr n a L) (hx : ev L x = some (.tuple vs)) (hv : vs[i]? = some v) : (execOp a.eval ⟨dd, .extract x i, ty, pos, af, gd⟩).run P w = .ok (.value v) w := by
  simp [execOp, hf.ev hx, Instr.extract, hv]
theorem r_call {f : FuncId} {fn : Func} {ats : Array TypeId} {l : List Operand} {vs : List Value} (hfn : P.funcs[f]? = some fn) (hnm : (fn.name == "runtime.NumGoroutine") = false) (hb : fn.body.isNone = false) (hf : Fr n a L) (hx : l.map (ev L) = vs.map some) :
    (execOp a.eval ⟨dd, .call ⟨.value (.func f), l.toArray, ats⟩, ty, pos, af, gd⟩).run P w = .ok (.enter f vs.toArray) w := by
  have hm : l.map a.eval = vs := by
    clear hfn hnm hb
    induction l generalizing vs with
    | nil => cases vs with
      | nil => rfl
      | cons => cases hx
    | cons o l ih => cases vs with
      | nil => cases hx
      | cons u vs =>
        simp only [List.map_cons, List.cons.injEq] at hx
        rw [List.map_cons, hf.ev hx.1, ih hx.2]
  have h1 : ¬ fn.name = "runtime.NumGoroutine" := by simpa using hnm
  have h2 : ¬ fn.body = none := by
    intro e
    rw [e] at hb
    cases hb
  simp [execOp, resolve, Act.eval, Deferred.ofValue, invoke, callFunc, hfn, h1, h2, hm]
end Go.Proofs.YtB
