/- Words of this seat's own: worlds, regions, slices, grids: what the printed texts lean on. -/
import Derived.Test.YtbhaeajdabgnhaaSqV
import Derived.StillTail
import Derived.ChangeKeysEq
import Derived.Laws.StructEq
import Derived.Lib.SliceRun
import Derived.OpenShut
import Derived.ProofKit
import Derived.Lib.AppendZeros
import Derived.Shelf.SlSortCmp.NoneTotal
import Derived.Laws.Cover1
/- Words of this seat's own: frames by a list of live slots; what an operation does, as an equation on its run; the steps of a region, a loop, a join. -/
set_option linter.unusedVariables false
set_option linter.unusedSimpArgs false
set_option linter.unusedSectionVars false
namespace Go.Proofs.YtB
open Go Go.RowKit
def look : List (Nat × Value) → Nat → Option Value
  | [], _ => none
  | (k, v) :: r, t => match Nat.beq k t with
    | true => some v
    | false => look r t
structure Fr (n : Nat) (a : Act) (L : List (Nat × Value)) : Prop where
  d : a.defers = []
  s : a.tmps.size = n
  l : ∀ t v, look L t = some v → a.tmps[t]? = some v
def ev (L : List (Nat × Value)) : Operand → Option Value
  | .tmp t => look L t
  | .const v => some v
  | .global g => some (.pointer (some ⟨g, 0, none⟩))
  | .func f => some (.func (.func f) #[] #[])
variable {P : Program} {n : Nat} {a : Act} {L : List (Nat × Value)} {w w' : World}
theorem Fr.ev (hf : Fr n a L) {x : Operand} {v : Value} (h : ev L x = some v) : a.eval x = v := by
  cases x with
  | tmp t =>
    have := hf.l t v h
    simp [Act.eval, this]
  | const u => simpa [YtB.ev, Act.eval] using h
  | global g => simpa [YtB.ev, Act.eval] using h
  | func f => simpa [YtB.ev, Act.eval] using h
theorem Fr.put (hf : Fr n a L) (d : Nat) (hd : d < n) (v : Value) : Fr n (a.put (some d) v) ((d, v) :: L) := by
  refine ⟨hf.d, by simp [Act.put, hf.s], fun t u h => ?_⟩
  simp only [look] at h
  simp only [Act.put]
  cases hb : Nat.beq d t with
  | true =>
    rw [hb] at h
    have e : d = t := Nat.eq_of_beq_eq_true hb
    subst e
    injection h with h
    subst h
    simp [hf.s, hd]
  | false =>
    rw [hb] at h
    have e : d ≠ t := Nat.ne_of_beq_eq_false hb
    rw [Array.getElem?_setIfInBounds_ne e]
    exact hf.l t u h
/-- what is kept of a frame -/
def sub (L : List (Nat × Value)) : List (Nat × Value) → Prop
  | [] => True
  | (t, v) :: r => look L t = some v ∧ sub L r
theorem Fr.sub {L' : List (Nat × Value)} (hf : Fr n a L) (h : sub L L') : Fr n a L' := by
  refine ⟨hf.d, hf.s, ?_⟩
  induction L' with
  | nil => intro t v h; cases h
  | cons p r ih =>
    obtain ⟨k, u⟩ := p
    intro t v hv
    simp only [look] at hv
    cases hb : Nat.beq k t with
    | true =>
      rw [hb] at hv
      injection hv with hv
      subst hv
      rw [← Nat.eq_of_beq_eq_true hb]
      exact hf.l k u h.1
    | false =>
      rw [hb] at hv
      exact ih h.2 t v hv

def enumL : Nat → List Value → List (Nat × Value)
  | _, [] => []
  | k, v :: r => (k, v) :: enumL (k + 1) r
theorem look_enumL : ∀ (l : List Value) (k t : Nat) (v : Value), look (enumL k l) t = some v → k ≤ t ∧ l[t - k]? = some v
  | [], k, t, v, h => by cases h
  | u :: r, k, t, v, h => by
    simp only [enumL, look] at h
    cases hb : Nat.beq k t with
    | true =>
      rw [hb] at h
      have := Nat.eq_of_beq_eq_true hb
      subst this
      exact ⟨Nat.le_refl _, by simpa using h⟩
    | false =>
      rw [hb] at h
      have e : k ≠ t := Nat.ne_of_beq_eq_false hb
      obtain ⟨h1, h2⟩ := look_enumL r (k + 1) t v h
      refine ⟨by omega, ?_⟩
      rw [show t - k = (t - (k + 1)) + 1 by omega]
      simpa using h2
theorem Fr.enter (l : List Value) (k : Nat) (hk : l.length ≤ k) : Fr k { tmps := l.toArray ++ Array.replicate (k - l.toArray.size) undef, defers := [] } (enumL 0 l) := by
  refine ⟨rfl, by simp; omega, fun t v h => ?_⟩
  obtain ⟨_, h⟩ := look_enumL l 0 t v h
  simp only [Nat.sub_zero] at h
  have hl : t < l.length := by
    rcases Nat.lt_or_ge t l.length with h1 | h1
    · exact h1
    · rw [List.getElem?_eq_none h1] at h; cases h
  show (l.toArray ++ _)[t]? = some v
  rw [Array.getElem?_append_left (by simpa using hl)]
  simpa using h
/-- a call from its body's walk -/
theorem calls_of {f : FuncId} {fn : Func} {c : Code} {l : List Value} {k : Nat} {R : Ending → World → Prop} (hf : P.funcs[f]? = some fn) (hb : fn.body = some c) (hn : fn.ntmps = k) (hk : l.length ≤ k)
    (h : ∀ a, Fr k a (enumL 0 l) → c.wp P (bodyPost P fn R) a w) : Calls P f l.toArray w R :=
  calls_of_wp hf hb (by rw [hn]; exact h _ (Fr.enter l k hk))

variable {Q : Exit → Act → World → Prop} {ops : Array Oper} {rest : List Oper} {o : Oper}
theorem c_seq {x y : Code} (h : x.wp P (Exit.then (y.wp P Q) Q) a w) : (Code.seq x y).wp P Q a w := wp_seq h
theorem c_region {id : Nat} {l : List Oper} (h : wpList P l.toArray Q l a w) : (Code.region id l.toArray false).wp P Q a w := wp_region_lit h
theorem c_cond {c : Operand} {x y : Code} (b : Bool) (hf : Fr n a L) (hc : ev L c = some (.bool b)) (h : (if b then x else y).wp P Q a w) : (Code.cond c x y).wp P Q a w := wp_cond (hf.ev hc) h
inductive LR (σ ρ : Type) where
  | next (s : σ)
  | stop (s : σ)
  | ret (r : ρ)
def iterF {σ ρ : Type} (body : σ → Option (LR σ ρ)) : Nat → σ → Option (LR σ ρ)
  | 0, _ => none
  | k + 1, s => match body s with
    | none => none
    | some (.next s') => iterF body k s'
    | some x => some x
theorem iterF_mono {σ ρ : Type} {body : σ → Option (LR σ ρ)} : ∀ {k : Nat} {s : σ} {x : LR σ ρ}, iterF body k s = some x → ∀ m, k ≤ m → iterF body m s = some x := by
  intro k
  induction k with
  | zero => intro s x h; cases h
  | succ k ih =>
    intro s x h m hm
    obtain ⟨m, rfl⟩ : ∃ m', m = m' + 1 := ⟨m - 1, by omega⟩
    simp only [iterF] at h ⊢
    cases hb : body s with
    | none => rw [hb] at h; cases h
    | some y =>
      rw [hb] at h
      cases y with
      | next s' => exact ih h m (by omega)
      | stop s' => exact h
      | ret r => exact h
open Classical in
noncomputable def iter {σ ρ : Type} (body : σ → Option (LR σ ρ)) (s : σ) : Option (LR σ ρ) :=
  if h : ∃ k, (iterF body k s).isSome = true then iterF body (Classical.choose h) s else none
theorem iter_of {σ ρ : Type} {body : σ → Option (LR σ ρ)} {k : Nat} {s : σ} {x : LR σ ρ} (h : iterF body k s = some x) : iter body s = some x := by
  have hk : ∃ k, (iterF body k s).isSome = true := ⟨k, by rw [h]; rfl⟩
  unfold iter
  rw [dif_pos hk]
  have hc := Classical.choose_spec hk
  obtain ⟨y, hy⟩ := Option.isSome_iff_exists.1 hc
  have h1 := iterF_mono hy (max (Classical.choose hk) k) (by omega)
  have h2 := iterF_mono h (max (Classical.choose hk) k) (by omega)
  rw [hy, ← h1, h2]
theorem of_iter {σ ρ : Type} {body : σ → Option (LR σ ρ)} {s : σ} {x : LR σ ρ} (h : iter body s = some x) : ∃ k, iterF body k s = some x := by
  unfold iter at h
  split at h
  · exact ⟨_, h⟩
  · cases h
theorem iter_eq {σ ρ : Type} (body : σ → Option (LR σ ρ)) (s : σ) : iter body s = match body s with
    | none => none
    | some (.next s') => iter body s'
    | some x => some x := by
  cases hb : body s with
  | none =>
    cases hi : iter body s with
    | none => rfl
    | some x =>
      obtain ⟨k, hk⟩ := of_iter hi
      cases k with
      | zero => cases hk
      | succ k => simp [iterF, hb] at hk
  | some y =>
    cases y with
    | next s' =>
      show iter body s = iter body s'
      cases hi : iter body s' with
      | some x =>
        obtain ⟨k, hk⟩ := of_iter hi
        exact iter_of (k := k + 1) (by simp [iterF, hb, hk])
      | none =>
        cases hi2 : iter body s with
        | none => rfl
        | some x =>
          obtain ⟨k, hk⟩ := of_iter hi2
          cases k with
          | zero => cases hk
          | succ k =>
            simp only [iterF, hb] at hk
            rw [iter_of hk] at hi
            cases hi
    | stop s' => exact iter_of (k := 1) (by simp [iterF, hb])
    | ret r => exact iter_of (k := 1) (by simp [iterF, hb])
/-- where a loop's round may end: 'St' holds where the loop is left by its block's exit -/
def Rnd {σ ρ : Type} (id : Nat) (out : LR σ ρ) (I St : σ → Act → World → Prop) (Q : Exit → Act → World → Prop) (lr : LR σ ρ) (e : Exit) (a : Act) (w : World) : Prop :=
  match lr with
  | .next s => e = .normal ∧ I s a w
  | .stop s => e = .exit id ∧ St s a w
  | .ret r => e ≠ .normal ∧ (out = .ret r → Q e a w)
theorem c_loop {σ ρ : Type} {id : Nat} {c : Code} (body : σ → Option (LR σ ρ)) (I St : σ → Act → World → Prop) {s0 : σ} {out : LR σ ρ} (hit : iter body s0 = some out) (h0 : I s0 a w)
    (round : ∀ s lr a w, I s a w → body s = some lr → c.wp P (Rnd id out I St Q lr) a w)
    (hst : ∀ s a w, out = .stop s → St s a w → Q (.exit id) a w) : (Code.loop c).wp P Q a w := by
  obtain ⟨k, hk⟩ := of_iter hit
  intro b kk cs
  have key : ∀ k s a w, iterF body k s = some out → I s a w → ∃ e a' w', Q e a' w' ∧ Arrives P (lone (b.at a (.code c :: .inLoop c :: kk)) cs w) b kk cs e a' w' := by
    intro k
    induction k with
    | zero => intro s a w h; cases h
    | succ k ih =>
      intro s a w h hI
      simp only [iterF] at h
      cases hb : body s with
      | none => rw [hb] at h; cases h
      | some lr =>
        rw [hb] at h
        obtain ⟨e, a₁, w₁, hq, harr⟩ := round s lr a w hI hb b (.inLoop c :: kk) cs
        have fin : Q e a₁ w₁ → e ≠ .normal → ∃ e a' w', Q e a' w' ∧ Arrives P (lone (b.at a (.code c :: .inLoop c :: kk)) cs w) b kk cs e a' w' :=
          fun hq hne => ⟨e, a₁, w₁, hq, .pass (x := .inLoop c) rfl (fun _ _ => .inl hne) harr⟩
        cases lr with
        | next s' =>
          obtain ⟨rfl, hI'⟩ := hq
          obtain ⟨e₂, a₂, w₂, hq₂, harr₂⟩ := ih s' a₁ w₁ h hI'
          exact ⟨e₂, a₂, w₂, hq₂, .of_steps (Steps.trans harr (.one step_inLoop)) harr₂⟩
        | stop s' =>
          obtain ⟨rfl, hS⟩ := hq
          injection h with h
          exact fin (hst s' a₁ w₁ h.symm hS) (by simp)
        | ret r =>
          injection h with h
          exact fin (hq.2 h.symm) hq.1
  obtain ⟨e, a', w', hq, harr⟩ := key k s0 a w hk h0
  exact ⟨e, a', w', hq, .of_steps (.one step_loop) harr⟩
end Go.Proofs.YtB

/- Words of this seat's own: one operation of a region; what the operations on numbers and truth values answer. -/
set_option linter.unusedVariables false
set_option linter.unusedSimpArgs false
set_option linter.unusedSectionVars false
namespace Go.Proofs.YtB
open Go Go.RowKit
variable {P : Program} {n : Nat} {a : Act} {L : List (Nat × Value)} {w w' : World} {Q : Exit → Act → World → Prop} {ops : Array Oper} {rest : List Oper} {o : Oper}
theorem st {d : Nat} {v : Value} (hf : Fr n a L) (hg : o.guard = none) (hd : o.dst = some d) (hn : d < n) (hr : (execOp a.eval o).run P w = .ok (.value v) w')
    (h : ∀ a', Fr n a' ((d, v) :: L) → wpList P ops Q rest a' w') : wpList P ops Q (o :: rest) a w := by
  refine wpList_plain hg fun K hK => ?_
  unfold Oper.wp
  rw [hr]
  refine hK _ _ (h _ ?_)
  rw [hd]
  exact hf.put d hn v
/-- the same, the value told by what holds of it -/
theorem st_ex {d : Nat} {Φ : Value → World → Prop} (hf : Fr n a L) (hg : o.guard = none) (hd : o.dst = some d) (hn : d < n) (hr : ∃ v w', (execOp a.eval o).run P w = .ok (.value v) w' ∧ Φ v w')
    (h : ∀ a' v w', Fr n a' ((d, v) :: L) → Φ v w' → wpList P ops Q rest a' w') : wpList P ops Q (o :: rest) a w := by
  obtain ⟨v, w', hr, hΦ⟩ := hr
  exact st hf hg hd hn hr fun a' hf' => h a' v w' hf' hΦ
theorem st_skip {Φ : World → Prop} (hf : Fr n a L) (hg : o.guard = none) (hd : o.dst = none) (hr : ∃ w', (execOp a.eval o).run P w = .ok .skip w' ∧ Φ w')
    (h : ∀ a' w', Fr n a' L → Φ w' → wpList P ops Q rest a' w') : wpList P ops Q (o :: rest) a w := by
  obtain ⟨w', hr, hΦ⟩ := hr
  refine wpList_plain hg fun K hK => ?_
  unfold Oper.wp
  rw [hr]
  refine hK _ _ (h _ _ ?_ hΦ)
  rw [hd]
  exact hf
theorem st_call {d : Nat} {f : FuncId} {args : Array Value} {Φ : Value → World → Prop} (hf : Fr n a L) (hg : o.guard = none) (hd : o.dst = some d) (hn : d < n) (hr : (execOp a.eval o).run P w = .ok (.enter f args) w)
    (hc : Calls P f args w fun e w' => ∃ v, e = .returned v ∧ Φ v w') (h : ∀ a' v w', Fr n a' ((d, v) :: L) → Φ v w' → wpList P ops Q rest a' w') : wpList P ops Q (o :: rest) a w := by
  refine wpList_plain hg fun K hK => ?_
  unfold Oper.wp
  rw [hr]
  refine hc.mono ?_
  rintro e w' ⟨v, rfl, hΦ⟩
  refine hK _ _ (h _ v w' ?_ hΦ)
  rw [hd]
  exact hf.put d hn v
/-- a guarded operation: wanted, or passed over -/
theorem yield_of {j d : Nat} {b : Bool} (hf : Fr n a L) (hj : (ops[j]?).bind (·.dst) = some d) (hd : look L d = some (.bool b)) : yielded ops a.tmps j = some b := by
  have := hf.l d _ hd
  simp [yielded, hj, this]
theorem wants {j d : Nat} {b : Bool} (hf : Fr n a L) (hg : o.guard = some (j, b)) (hj : (ops[j]?).bind (·.dst) = some d) (hd : look L d = some (.bool b)) : Region.wanted o (yielded ops a.tmps) = true := by
  simp [Region.wanted, hg, yield_of hf hj hd]
theorem st_no {j d t : Nat} {b b' : Bool} (hf : Fr n a L) (hg : o.guard = some (j, !b)) (hj : (ops[j]?).bind (·.dst) = some d) (hd : look L d = some (.bool b')) (hb : b' = b) (ht : o.dst = some t) (hn : t < n)
    (h : ∀ a', Fr n a' ((t, undef) :: L) → wpList P ops Q rest a' w) : wpList P ops Q (o :: rest) a w := by
  subst hb
  have hw : Region.wanted o (yielded ops a.tmps) = false := by
    simp [Region.wanted, hg, yield_of hf hj hd]
  refine wpList_step fun K hK => ?_
  rw [if_neg (by simp [hw])]
  refine hK _ _ (h _ ?_)
  rw [ht]
  exact hf.put t hn undef
theorem st_g {j d t : Nat} {b b' : Bool} {v : Value} (hf : Fr n a L) (hg : o.guard = some (j, b)) (hj : (ops[j]?).bind (·.dst) = some d) (hd : look L d = some (.bool b')) (hb : b' = b) (ht : o.dst = some t) (hn : t < n) (hr : (execOp a.eval o).run P w = .ok (.value v) w')
    (h : ∀ a', Fr n a' ((t, v) :: L) → wpList P ops Q rest a' w') : wpList P ops Q (o :: rest) a w := by
  subst hb
  have hw := wants (o := o) hf hg hj hd
  refine wpList_step fun K hK => ?_
  rw [if_pos hw]
  unfold Oper.wp
  rw [hr]
  refine hK _ _ (h _ ?_)
  rw [ht]
  exact hf.put t hn v
theorem st_gex {j d t : Nat} {b b' : Bool} {Φ : Value → World → Prop} (hf : Fr n a L) (hg : o.guard = some (j, b)) (hj : (ops[j]?).bind (·.dst) = some d) (hd : look L d = some (.bool b')) (hb : b' = b) (ht : o.dst = some t) (hn : t < n) (hr : ∃ v w', (execOp a.eval o).run P w = .ok (.value v) w' ∧ Φ v w')
    (h : ∀ a' v w', Fr n a' ((t, v) :: L) → Φ v w' → wpList P ops Q rest a' w') : wpList P ops Q (o :: rest) a w := by
  obtain ⟨v, w', hr, hΦ⟩ := hr
  exact st_g hf hg hj hd hb ht hn hr fun a' hf' => h a' v w' hf' hΦ
theorem st_gcall {j d t : Nat} {b b' : Bool} {f : FuncId} {args : Array Value} {Φ : Value → World → Prop} (hf : Fr n a L) (hg : o.guard = some (j, b)) (hj : (ops[j]?).bind (·.dst) = some d) (hd : look L d = some (.bool b')) (hb : b' = b) (ht : o.dst = some t) (hn : t < n) (hr : (execOp a.eval o).run P w = .ok (.enter f args) w)
    (hc : Calls P f args w fun e w' => ∃ v, e = .returned v ∧ Φ v w') (h : ∀ a' v w', Fr n a' ((t, v) :: L) → Φ v w' → wpList P ops Q rest a' w') : wpList P ops Q (o :: rest) a w := by
  subst hb
  have hw := wants (o := o) hf hg hj hd
  refine wpList_step fun K hK => ?_
  rw [if_pos hw]
  unfold Oper.wp
  rw [hr]
  refine hc.mono ?_
  rintro e w' ⟨v, rfl, hΦ⟩
  refine hK _ _ (h _ v w' ?_ hΦ)
  rw [ht]
  exact hf.put t hn v

theorem of_ite {α : Type} {b : Bool} {x y : Option α} {r : α} (h : (if b = true then x else y) = some r) : (b = true ∧ x = some r) ∨ (b = false ∧ y = some r) := by
  cases b with
  | true => exact .inl ⟨rfl, h⟩
  | false => exact .inr ⟨rfl, h⟩
theorem of_guard {α : Type} {c : Prop} [Decidable c] {x : Option α} {r : α} (h : (if c then x else none) = some r) : c ∧ x = some r := by
  by_cases hc : c
  · rw [if_pos hc] at h; exact ⟨hc, h⟩
  · rw [if_neg hc] at h; cases h
theorem of_bind {α β : Type} {x : Option α} {f : α → Option β} {r : β} (h : x.bind f = some r) : ∃ y, x = some y ∧ f y = some r := by
  cases x with
  | none => cases h
  | some y => exact ⟨y, rfl, h⟩

variable {x y : Operand} {p q : Int} {k : IntKind} {T T' ty : TypeId} {pos : String} {af : Array Edge} {gd : Option (Nat × Bool)} {dd : Option Tmp}
def w64 (x : Int) : Int := IntKind.i64.wrap x
theorem w64_id {x : Int} (h0 : -9223372036854775808 ≤ x) (h1 : x ≤ 9223372036854775807) : w64 x = x := IntWalk.i64_in _ (by omega)
def u8 (x : Int) : UInt8 := UInt8.ofNat (x % 256).toNat
theorem r_move {v : Value} (hf : Fr n a L) (hx : ev L x = some v) : (execOp a.eval ⟨dd, .move x, ty, pos, af, gd⟩).run P w = .ok (.value v) w := by
  simp [execOp, hf.ev hx]
theorem r_assign {v : Value} (hf : Fr n a L) (hx : ev L x = some v) : (execOp a.eval ⟨dd, .assign x, ty, pos, af, gd⟩).run P w = .ok (.value v) w := by
  simp [execOp, hf.ev hx]
theorem r_pick {c : Operand} {b b' : Bool} {v : Value} (hf : Fr n a L) (hc : ev L c = some (.bool b')) (hb : b' = b) (hx : ev L (if b then x else y) = some v) : (execOp a.eval ⟨dd, .pick c x y, ty, pos, af, gd⟩).run P w = .ok (.value v) w := by
  subst hb
  cases b'
  · simp [execOp, hf.ev hc, asBool, hf.ev (x := y) hx]
  · simp [execOp, hf.ev hc, asBool, hf.ev (x := x) hx]
theorem r_add (hf : Fr n a L) (hx : ev L x = some (.int .i64 p)) (hy : ev L y = some (.int .i64 q)) : (execOp a.eval ⟨dd, .binOp .add T x y T', ty, pos, af, gd⟩).run P w = .ok (.value (.int .i64 (w64 (p + q)))) w := by
  simp [execOp, hf.ev hx, hf.ev hy, eqGuard, binOp, Op.intArith, w64]
theorem r_sub (hf : Fr n a L) (hx : ev L x = some (.int .i64 p)) (hy : ev L y = some (.int .i64 q)) : (execOp a.eval ⟨dd, .binOp .sub T x y T', ty, pos, af, gd⟩).run P w = .ok (.value (.int .i64 (w64 (p - q)))) w := by
  simp [execOp, hf.ev hx, hf.ev hy, eqGuard, binOp, Op.intArith, w64]
theorem r_mul (hf : Fr n a L) (hx : ev L x = some (.int .i64 p)) (hy : ev L y = some (.int .i64 q)) : (execOp a.eval ⟨dd, .binOp .mul T x y T', ty, pos, af, gd⟩).run P w = .ok (.value (.int .i64 (w64 (p * q)))) w := by
  simp [execOp, hf.ev hx, hf.ev hy, eqGuard, binOp, Op.intArith, w64]
theorem r_rem (hf : Fr n a L) (hx : ev L x = some (.int .i64 p)) (hy : ev L y = some (.int .i64 q)) (h0 : q ≠ 0) : (execOp a.eval ⟨dd, .binOp .rem T x y T', ty, pos, af, gd⟩).run P w = .ok (.value (.int .i64 (p.tmod q))) w := by
  simp [execOp, hf.ev hx, hf.ev hy, eqGuard, binOp, Op.intDiv, h0]
theorem r_lss (hf : Fr n a L) (hx : ev L x = some (.int k p)) (hy : ev L y = some (.int k q)) : (execOp a.eval ⟨dd, .binOp .lss T x y T', ty, pos, af, gd⟩).run P w = .ok (.value (.bool (decide (p < q)))) w := by
  simp [execOp, hf.ev hx, hf.ev hy, eqGuard, binOp, Op.intCmp]
theorem r_leq (hf : Fr n a L) (hx : ev L x = some (.int k p)) (hy : ev L y = some (.int k q)) : (execOp a.eval ⟨dd, .binOp .leq T x y T', ty, pos, af, gd⟩).run P w = .ok (.value (.bool (decide (p ≤ q)))) w := by
  simp [execOp, hf.ev hx, hf.ev hy, eqGuard, binOp, Op.intCmp]
theorem r_gtr (hf : Fr n a L) (hx : ev L x = some (.int k p)) (hy : ev L y = some (.int k q)) : (execOp a.eval ⟨dd, .binOp .gtr T x y T', ty, pos, af, gd⟩).run P w = .ok (.value (.bool (decide (q < p)))) w := by
  simp [execOp, hf.ev hx, hf.ev hy, eqGuard, binOp, Op.intCmp]
theorem r_geq (hf : Fr n a L) (hx : ev L x = some (.int k p)) (hy : ev L y = some (.int k q)) : (execOp a.eval ⟨dd, .binOp .geq T x y T', ty, pos, af, gd⟩).run P w = .ok (.value (.bool (decide (q ≤ p)))) w := by
  simp [execOp, hf.ev hx, hf.ev hy, eqGuard, binOp, Op.intCmp]
theorem r_eql (hf : Fr n a L) (hx : ev L x = some (.int k p)) (hy : ev L y = some (.int k q)) : (execOp a.eval ⟨dd, .binOp .eql T x y T', ty, pos, af, gd⟩).run P w = .ok (.value (.bool (decide (p = q)))) w := by
  simp only [execOp, hf.ev hx, hf.ev hy]
  simp [eqGuard, binOp, Op.intCmp]
  exact Bool.eq_iff_iff.2 (by simp)
theorem r_neq (hf : Fr n a L) (hx : ev L x = some (.int k p)) (hy : ev L y = some (.int k q)) : (execOp a.eval ⟨dd, .binOp .neq T x y T', ty, pos, af, gd⟩).run P w = .ok (.value (.bool (decide (p ≠ q)))) w := by
  simp only [execOp, hf.ev hx, hf.ev hy]
  simp [eqGuard, binOp, Op.intCmp]
  exact Bool.eq_iff_iff.2 (by simp)
theorem r_not {b : Bool} (hf : Fr n a L) (hx : ev L x = some (.bool b)) : (execOp a.eval ⟨dd, .unOp .not T x, ty, pos, af, gd⟩).run P w = .ok (.value (.bool (!b))) w := by
  simp [execOp, hf.ev hx, Op.unary]
theorem r_neqb {b c : Bool} (hu : P.underlying T = some .bool) (hf : Fr n a L) (hx : ev L x = some (.bool b)) (hy : ev L y = some (.bool c)) : (execOp a.eval ⟨dd, .binOp .neq T x y T', ty, pos, af, gd⟩).run P w = .ok (.value (.bool (b != c))) w := by
  have h : ∀ d : Nat, (Op.equalIn (d + 1) T (.bool b) (.bool c)).run P w = .ok (b == c) w := fun d => by
    simp [Op.equalIn, run_underlying hu]
  have e : (!(b == c)) = (b != c) := rfl
  simp only [execOp, hf.ev hx, hf.ev hy, binOp]
  simp [eqGuard, Op.equal, Op.maxDepth, h 9999, e]
theorem r_conv_u8_i64 {b : UInt8} (hT : P.underlying T = some (.int .u8)) (hT' : P.underlying T' = some (.int .i64)) (hf : Fr n a L) (hx : ev L x = some (.int .u8 (b.toNat : Int))) : (execOp a.eval ⟨dd, .convert T T' x, ty, pos, af, gd⟩).run P w = .ok (.value (.int .i64 (b.toNat : Int))) w := by
  have hb := b.toNat_lt
  have e : IntKind.i64.wrap (b.toNat : Int) = (b.toNat : Int) := IntWalk.i64_in _ (by omega)
  simp [execOp, hf.ev hx, convert, run_underlying hT, run_underlying hT', Conv.intToInt, e]
theorem r_extract {vs : Array Value} {i : Nat} {v : Value} (hf : Fr n a L) (hx : ev L x = some (.tuple vs)) (hv : vs[i]? = some v) : (execOp a.eval ⟨dd, .extract x i, ty, pos, af, gd⟩).run P w = .ok (.value v) w := by
  simp [execOp, hf.ev hx, Instr.extract, hv]
theorem r_call {f : FuncId} {fn : Func} {ats : Array TypeId} {l : List Operand} {vs : List Value} (hfn : P.funcs[f]? = some fn) (hnm : (fn.name == "runtime.NumGoroutine") = false) (hb : fn.body.isNone = false) (hf : Fr n a L) (hx : l.map (ev L) = vs.map some) :
    (execOp a.eval ⟨dd, .call ⟨.value (.func f), l.toArray, ats⟩, ty, pos, af, gd⟩).run P w = .ok (.enter f vs.toArray) w := by
  have hm : l.map a.eval = vs := by
    clear hfn hnm hb
    induction l generalizing vs with
    | nil => cases vs with
      | nil => rfl
      | cons => cases hx
    | cons o l ih => cases vs with
      | nil => cases hx
      | cons u vs =>
        simp only [List.map_cons, List.cons.injEq] at hx
        rw [List.map_cons, hf.ev hx.1, ih hx.2]
  have h1 : ¬ fn.name = "runtime.NumGoroutine" := by simpa using hnm
  have h2 : ¬ fn.body = none := by
    intro e
    rw [e] at hb
    cases hb
  simp [execOp, resolve, Act.eval, Deferred.ofValue, invoke, callFunc, hfn, h1, h2, hm]
end Go.Proofs.YtB

/- Words of this seat's own: flat codes of values, parts of them; cells that are read; blocks of the call's own and who owns them. -/
set_option linter.unusedVariables false
set_option linter.unusedSimpArgs false
set_option linter.unusedSectionVars false
namespace Go.Proofs.YtB
open Go Go.RowKit
open Go.Proofs.YtbhaeajdabgnhaaW.PrintWords (Kd add_add add_plain)
theorem viewStore_drawn {P : Program} {w : World} {at_ : Addr} {u : TypeId} {k : Addr} {v : Value} {b : Bool} {r : World × List Addr} (h : w.viewStore P at_ u k v b = .ok r) : r.1.drawn = w.drawn := by
  unfold World.viewStore at h
  simp only [bind, Except.bind, pure, Except.pure] at h
  repeat' (split at h)
  all_goals first
    | (cases h; done)
    | (injection h with h; rw [← h])
theorem farStore_drawn {P : Program} {w : World} {a : Addr} {v : Value} {b : Bool} {r : World × List Addr} (h : w.farStore P a v b = .ok r) : r.1.drawn = w.drawn := by
  unfold World.farStore at h
  repeat' (split at h)
  · rename_i h1
    injection h with h
    subst h
    exact viewStore_drawn h1
  · cases h
  · cases h
theorem ask_drawn {α : Type} : ∀ (q : Ask α) (w : World), w.drawn ≤ (w.ask q).2.drawn
  | .done a, w => Nat.le_refl _
  | .ask what range k, w => by
    unfold World.ask
    dsimp only
    split
    · exact ask_drawn _ w
    · exact Nat.le_trans (Nat.le_succ _) (ask_drawn _ { w with drawn := w.drawn + 1 })
theorem sys_drawn (w : World) (c : Sys) : w.drawn ≤ (w.sys c).2.drawn := by
  have h := ask_drawn (Kernel.perform c w.os) w
  unfold World.sys
  split
  · exact Nat.le_refl _
  · rename_i h1
    rw [h1] at h
    exact h
/-- draws only go on -/
theorem run_drawn {α : Type} {P : Program} : ∀ (m : Sem α) (w : World) {a : α} {w' : World}, m.run P w = .ok a w' → w.drawn ≤ w'.drawn
  | .pure a, w, _, _, h => by
    injection h with _ h
    rw [h]
    exact Nat.le_refl _
  | .load m a k, w, _, _, h => by
    unfold Sem.run at h
    split at h
    · exact run_drawn _ _ h
    · split at h
      · exact run_drawn _ _ h
      · cases h
  | .store m a v k, w, b, w', h => by
    have h2 : (∃ w1, w1.drawn = w.drawn ∧ k.run P w1 = .ok b w') := by
      cases v <;> simp only [Sem.run] at h <;> first
        | (cases h; done)
        | (split at h
           · split at h
             · cases h
             · exact ⟨w.setCell a _, rfl, h⟩
           · split at h
             · rename_i h1
               exact ⟨_, farStore_drawn h1, h⟩
             · cases h)
    obtain ⟨w1, e, h3⟩ := h2
    rw [← e]
    exact run_drawn _ _ h3
  | .new o k, w, _, _, h => run_drawn (k w.heap.size) { w with heap := w.heap.push o } h
  | .shape r k, w, _, _, h => run_drawn (k (w.shape? r)) w h
  | .freeze a n k, w, _, _, h => by
    have := run_drawn k (w.freeze a n) h
    unfold World.freeze at this
    split at this <;> exact this
  | .frozen a k, w, _, _, h => run_drawn (k (w.frozen? a)) w h
  | .getObj r k, w, _, _, h => by
    unfold Sem.run at h
    split at h
    · cases h
    · exact run_drawn _ _ h
    · cases h
  | .setObj r o k, w, _, _, h => by
    unfold Sem.run at h
    split at h
    · cases h
    · exact run_drawn k { w with heap := w.heap.setIfInBounds r o } h
    · cases h
  | .choose q k, w, _, _, h => by
    unfold Sem.run at h
    split at h
    · exact run_drawn _ _ h
    · exact Nat.le_trans (Nat.le_succ _) (run_drawn _ { w with drawn := w.drawn + 1 } h)
  | .sys c k, w, _, _, h => Nat.le_trans (sys_drawn w c) (run_drawn _ _ h)
  | .program k, w, _, _, h => run_drawn (k P) w h
  | .mark _ k, w, _, _, h => run_drawn k w h
  | .halt h, w, _, _, h' => by cases h'
/-- of the blocks below B nothing has turned, and draws have only gone on -/
structure Below (B : Nat) (w w' : World) : Prop where
  os : w'.os = w.os
  tape : w'.tape = w.tape
  output : w'.output = w.output
  size : w.heap.size ≤ w'.heap.size
  block : ∀ k, k < B → w'.heap[k]? = w.heap[k]?
  drawn : w.drawn ≤ w'.drawn
theorem Below.k {B : Nat} {w w' : World} (h : Below B w w') : Go.RowKit.Below B w w' := ⟨h.os, h.tape, h.output, h.size, h.block⟩
theorem Below.of {B : Nat} {w w' : World} (h : Go.RowKit.Below B w w') (hd : w.drawn ≤ w'.drawn) : Below B w w' := ⟨h.os, h.tape, h.output, h.size, h.block, hd⟩
theorem Below.refl (B : Nat) (w : World) : Below B w w := ⟨rfl, rfl, rfl, Nat.le_refl _, fun _ _ => rfl, Nat.le_refl _⟩
theorem Below.trans {B : Nat} {a b c : World} (h : Below B a b) (k : Below B b c) : Below B a c := .of (h.k.trans k.k) (Nat.le_trans h.drawn k.drawn)
theorem Below.mono {B B' : Nat} {w w' : World} (h : Below B w w') (hB : B' ≤ B) : Below B' w w' := .of (h.k.mono hB) h.drawn
theorem Below.drew {B : Nat} {a w : World} (h : Below B a w) : Below B a w.drew := .of h.k.drew (Nat.le_succ_of_le h.drawn)
theorem Below.alloc {B : Nat} {a w : World} (h : Below B a w) (hB : B ≤ w.heap.size) (o : Obj) : Below B a (w.alloc o) := .of (h.k.alloc hB o) h.drawn
theorem Below.setCell {B : Nat} {a w : World} (h : Below B a w) {p : Addr} (hp : B ≤ p.block) (u : Value) : Below B a (w.setCell p u) := .of (h.k.setCell hp u) h.drawn
theorem Below.grown {B : Nat} {a w w' : World} {row : Option Nat} (h : Below B a w) (hg : w.grownBy w' row) (hB : B ≤ w.heap.size) (hr : ∀ k, row = some k → B ≤ k) (hd : w.drawn ≤ w'.drawn) : Below B a w' := .of (h.k.grown hg hB hr) (Nat.le_trans h.drawn hd)
theorem Below.cell {B : Nat} {w w' : World} (h : Below B w w') {p : Addr} (hp : p.block < B) : w'.cell? p = w.cell? p := h.k.cell hp
theorem Below.frozen {B : Nat} {w w' : World} (h : Below B w w') {p : Addr} (hp : p.block < B) : w'.frozen? p = w.frozen? p := h.k.frozen hp
structure Fl (α : Type) where
  n : Nat
  enc : α → List Value
  len : ∀ x, (enc x).length = n
  one : ∀ x, ∀ u ∈ enc x, u.oneCell' = true
def fU8 : Fl UInt8 := ⟨1, fun b => [.int .u8 (b.toNat : Int)], fun _ => rfl, fun _ u hu => by rw [List.mem_singleton.1 hu]; rfl⟩
def fI64 : Fl Int := ⟨1, fun b => [.int .i64 b], fun _ => rfl, fun _ u hu => by rw [List.mem_singleton.1 hu]; rfl⟩
def fPair {α β : Type} (d : Fl α) (d' : Fl β) : Fl (α × β) := ⟨d.n + d'.n, fun x => d.enc x.1 ++ d'.enc x.2, fun x => by rw [List.length_append, d.len, d'.len], fun x u hu => by
  rcases List.mem_append.1 hu with h | h
  · exact d.one _ u h
  · exact d'.one _ u h⟩
theorem flatMap_len {α : Type} (d : Fl α) (l : List α) : (l.flatMap d.enc).length = l.length * d.n := by
  induction l with
  | nil => simp
  | cons x l ih => rw [List.flatMap_cons, List.length_append, d.len, ih, List.length_cons, Nat.succ_mul, Nat.add_comm]
theorem flatMap_get {α : Type} (d : Fl α) : ∀ (l : List α) (i : Nat) (z : α), i < l.length → ((l.flatMap d.enc).drop (i * d.n)).take d.n = d.enc (l.getD i z)
  | [], i, z, h => by cases h
  | x :: l, 0, z, h => by
    rw [Nat.zero_mul, List.drop_zero, List.flatMap_cons, List.take_left' (d.len x)]
    rfl
  | x :: l, i + 1, z, h => by
    rw [List.flatMap_cons, Nat.succ_mul, Nat.add_comm, ← List.drop_drop, List.drop_left' (d.len x), flatMap_get d l i z (by simpa using h)]
    rfl
/-- a part of a value at a place among its cells -/
structure Lens {α β : Type} (d : Fl α) (d' : Fl β) (off : Nat) (g : α → β) (s : α → β → α) : Prop where
  fit : off + d'.n ≤ d.n
  get : ∀ x, ((d.enc x).drop off).take d'.n = d'.enc (g x)
  set : ∀ x y, (d.enc x).take off ++ d'.enc y ++ (d.enc x).drop (off + d'.n) = d.enc (s x y)
theorem Lens.id {α : Type} (d : Fl α) : Lens d d 0 (fun x => x) (fun _ y => y) :=
  ⟨by omega, fun x => by rw [List.drop_zero, List.take_of_length_le (by rw [d.len]; omega)], fun x y => by rw [List.take_zero, List.nil_append, List.drop_eq_nil_of_le (by rw [d.len]; omega), List.append_nil]⟩
theorem Lens.comp {α β γ : Type} {d : Fl α} {d1 : Fl β} {d2 : Fl γ} {o1 o2 : Nat} {g1 : α → β} {s1 : α → β → α} {g2 : β → γ} {s2 : β → γ → β} (h1 : Lens d d1 o1 g1 s1) (h2 : Lens d1 d2 o2 g2 s2) :
    Lens d d2 (o1 + o2) (fun x => g2 (g1 x)) (fun x y => s1 x (s2 (g1 x) y)) := by
  have f1 := h1.fit
  have f2 := h2.fit
  refine ⟨by omega, fun x => ?_, fun x y => ?_⟩
  · rw [← h2.get, ← h1.get, List.drop_take, List.drop_drop, List.take_take, Nat.min_eq_left (by omega)]
  · rw [← h1.set, ← h2.set, ← h1.get]
    apply List.ext_getElem?
    intro j
    simp only [List.getElem?_append, List.length_append, List.length_take, List.length_drop, List.getElem?_take, List.getElem?_drop, d.len, d1.len, d2.len]
    repeat' split
    all_goals first
      | rfl
      | omega
      | (congr 1; omega)
theorem Lens.fst {α β : Type} (d : Fl α) (d' : Fl β) : Lens (fPair d d') d 0 (fun x => x.1) (fun x y => (y, x.2)) :=
  ⟨by simp [fPair], fun x => by simp only [fPair, List.drop_zero]; rw [List.take_left' (d.len _)], fun x y => by simp only [fPair, List.take_zero, List.nil_append, Nat.zero_add]; rw [List.drop_left' (d.len _)]⟩
theorem Lens.snd {α β : Type} (d : Fl α) (d' : Fl β) : Lens (fPair d d') d' d.n (fun x => x.2) (fun x y => (x.1, y)) :=
  ⟨by simp [fPair], fun x => by simp only [fPair]; rw [List.drop_left' (d.len _), List.take_of_length_le (by rw [d'.len]; omega)],
    fun x y => by simp only [fPair]; rw [List.take_left' (d.len _), List.drop_eq_nil_of_le (by rw [List.length_append, d.len, d'.len]; omega), List.append_nil]⟩
def vs {α : Type} {m : Nat} (v : Vector α m) (i : Int) (y : α) : Vector α m := v.setIfInBounds i.toNat y
def isAggD : TypeDesc → Bool
  | .struct _ | .array _ _ => true
  | _ => false
variable {P : Program} {n : Nat} {a : Act} {L : List (Nat × Value)} {w w' w0 : World} {Q : Exit → Act → World → Prop} {ops : Array Oper} {rest : List Oper} {o : Oper}
structure Ty (P : Program) (T : TypeId) (m : Nat) (ag : Bool) : Prop where
  u : ∃ d, P.underlying T = some d ∧ isAggD d = ag
  s : ∃ i, P.info? T = some i ∧ i.size = m
theorem Ty.mk' {T m : Nat} {ag : Bool} (hu : (P.underlying T).map isAggD = some ag) (hs : (P.info? T).map (·.size) = some m) : Ty P T m ag := by
  obtain ⟨d, h1, h2⟩ := Option.map_eq_some_iff.1 hu
  obtain ⟨i, h3, h4⟩ := Option.map_eq_some_iff.1 hs
  exact ⟨⟨d, h1, h2⟩, ⟨i, h3, h4⟩⟩
theorem run_isAgg {T m : Nat} {ag : Bool} (h : Ty P T m ag) (w : World) : (isAgg T).run P w = .ok ag w := by
  obtain ⟨d, h1, h2⟩ := h.u
  unfold isAgg
  rw [Sem.run_bind, run_underlying h1]
  cases d <;> simp_all [isAggD]
theorem run_size {T m : Nat} {ag : Bool} (h : Ty P T m ag) (w : World) : (sizeOf T).run P w = .ok m w := by
  obtain ⟨i, h1, h2⟩ := h.s
  simp [sizeOf, typeInfo, h1, h2]

def Cl (w : World) (ad : Addr) (k : Nat) (cs : List Value) : Prop := ∀ j u, cs[j]? = some u → w.cell? (ad.add (k + j)) = some u
theorem Cl.part {ad : Addr} {k : Nat} {cs : List Value} (h : Cl w ad k cs) (off m : Nat) : Cl w ad (k + off) ((cs.drop off).take m) := by
  intro j u hu
  rw [List.getElem?_take] at hu
  split at hu
  · rw [List.getElem?_drop] at hu
    rw [Nat.add_assoc]
    exact h _ u hu
  · cases hu
theorem Cl.below {ad : Addr} {k : Nat} {cs : List Value} (h : Cl w ad k cs) (hb : Below w.heap.size w w') : Cl w' ad k cs := fun j u hu => by
  have := h j u hu
  exact (hb.cell (World.block_lt_of_cell? w _ this)).trans this
theorem Cl.at_ {ad : Addr} {k : Nat} {cs : List Value} (h : Cl w ad k cs) (j : Nat) (u : Value) (hu : cs[j]? = some u) : Cl w ad (k + j) [u] := by
  intro i u' hu'
  cases i with
  | zero =>
    have e : u = u' := by simpa using hu'
    subst e
    exact h j u hu
  | succ i => simp at hu'

variable {x y : Operand} {p q : Int} {T T' ty : TypeId} {pos : String} {af : Array Edge} {gd : Option (Nat × Bool)} {dd : Option Tmp} {ad : Addr} {k : Nat} {cs : List Value} {m : Nat}
theorem run_loadVar_cell {v : Value} (hT : Ty P T m false) (hc : Cl w ad k [v]) : (loadVar T (ad.add k)).run P w = .ok v w := by
  have h := hc 0 v rfl
  simp only [Nat.add_zero] at h
  simp [loadVar, Sem.run_bind, run_isAgg hT, h]
theorem r_load_cell {v : Value} (hT : Ty P T m false) (hf : Fr n a L) (hx : ev L x = some (.pointer (some (ad.add k)))) (hc : Cl w ad k [v]) : (execOp a.eval ⟨dd, .load T x, ty, pos, af, gd⟩).run P w = .ok (.value v) w := by
  simp [execOp, hf.ev hx, Instr.loadAt, Instr.sureAddr, run_loadVar_cell hT hc]
theorem r_fieldAddr {S i off : Nat} {fs : Array Field} {f : Field} (hS : P.underlying S = some (.struct fs)) (hi : fs[i]? = some f) (ho : f.offset = off) (hz : ∃ j, P.info? f.type = some j ∧ j.size ≠ 0) (hf : Fr n a L) (hx : ev L x = some (.pointer (some (ad.add k)))) :
    (execOp a.eval ⟨dd, .fieldAddr S x i, ty, pos, af, gd⟩).run P w = .ok (.value (.pointer (some (ad.add (k + off))))) w := by
  obtain ⟨j, hj, hz⟩ := hz
  simp [execOp, hf.ev hx, Instr.fieldAt, run_underlying hS, hi, Instr.sureAddr, fieldPlace, sizeOf, typeInfo, hj, hz, add_add, ho]
theorem r_indexAddr_sl {len c e sz : Nat} {kk : IntKind} (hT : P.underlying T = some (.slice e)) (hs : (P.info? e).map (·.size) = some sz) (hf : Fr n a L) (hx : ev L x = some (.slice (some ad) len c)) (hy : ev L y = some (.int kk p)) (h0 : 0 ≤ p) (h1 : p < len) :
    (execOp a.eval ⟨dd, .indexAddr T x y, ty, pos, af, gd⟩).run P w = .ok (.value (.pointer (some (ad.add (p.toNat * sz))))) w := by
  obtain ⟨i, hi, hsz⟩ := Option.map_eq_some_iff.1 hs
  simp [execOp, hf.ev hx, hf.ev hy, Instr.indexAt, asIntOf, run_underlying hT, h0, h1, sizeOf, typeInfo, hi, hsz]
end Go.Proofs.YtB

/- Words of this seat's own: who owns which block; variables in memory; slices that are read, slices of the call's own. -/
set_option linter.unusedVariables false
set_option linter.unusedSimpArgs false
set_option linter.unusedSectionVars false
namespace Go.Proofs.YtB
open Go Go.RowKit
open Go.Proofs.YtbhaeajdabgnhaaW.PrintWords
variable {P : Program} {n : Nat} {a : Act} {L : List (Nat × Value)} {w w' w0 : World} {Q : Exit → Act → World → Prop} {ops : Array Oper} {rest : List Oper} {o : Oper}
variable {x y : Operand} {p q : Int} {T T' ty : TypeId} {pos : String} {af : Array Edge} {gd : Option (Nat × Bool)} {dd : Option Tmp} {ad : Addr} {k : Nat} {cs : List Value} {m : Nat}
variable {ρ ρ' : Nat → Nat} {i j g : Nat}
/-- the call's world: below its first block nothing has turned; what is owned lies above -/
structure Wd (w0 : World) (ρ : Nat → Nat) (w : World) : Prop where
  below : Below w0.heap.size w0 w
  own : ∀ k, ρ k ≠ 0 → w0.heap.size ≤ k
/-- only what i owns may have turned -/
structure Adv (i : Nat) (ρ : Nat → Nat) (w : World) (ρ' : Nat → Nat) (w' : World) : Prop where
  size : w.heap.size ≤ w'.heap.size
  rho : ∀ k, k < w.heap.size → ρ' k = ρ k
  blk : ∀ k, k < w.heap.size → ρ k ≠ i → w'.heap[k]? = w.heap[k]?
theorem Wd.start (w0 : World) : Wd w0 (fun _ => 0) w0 := ⟨Below.refl _ _, fun k h => absurd rfl h⟩
/-- the blocks from w's end on are i's -/
def ownr (ρ : Nat → Nat) (w : World) (i : Nat) : Nat → Nat := fun k => if k < w.heap.size then ρ k else i
theorem own_old {k : Nat} (h : k < w.heap.size) : ownr ρ w i k = ρ k := by simp [ownr, h]
theorem own_new {k : Nat} (h : w.heap.size ≤ k) : ownr ρ w i k = i := by simp [ownr]; omega
theorem Wd.new (hw : Wd w0 ρ w) (i : Nat) (hb : Below w.heap.size w w') : Wd w0 (ownr ρ w i) w' := by
  refine ⟨hw.below.trans (hb.mono hw.below.size), fun k hk => ?_⟩
  rcases Nat.lt_or_ge k w.heap.size with h | h
  · rw [own_old h] at hk; exact hw.own k hk
  · exact Nat.le_trans hw.below.size h
theorem Adv.new (i : Nat) (hb : Below w.heap.size w w') : Adv i ρ w (ownr ρ w i) w' := ⟨hb.size, fun k h => own_old h, fun k h _ => hb.block k h⟩

/-- old blocks are as they were, and their owners -/
structure Ext (ρ : Nat → Nat) (w : World) (ρ' : Nat → Nat) (w' : World) : Prop where
  below : Below w.heap.size w w'
  rho : ∀ k, k < w.heap.size → ρ' k = ρ k
theorem Ext.refl (ρ : Nat → Nat) (w : World) : Ext ρ w ρ w := ⟨Below.refl _ _, fun _ _ => rfl⟩
theorem Ext.new (i : Nat) (hb : Below w.heap.size w w') : Ext ρ w (ownr ρ w i) w' := ⟨hb, fun k h => own_old h⟩
/-- b's blocks are as they were, and b's -/
def Tr (b : Nat) (ρ : Nat → Nat) (w : World) (ρ' : Nat → Nat) (w' : World) : Prop := ∀ k, k < w.heap.size → ρ k = b → ρ' k = b ∧ w'.heap[k]? = w.heap[k]?
/-- a variable in memory: its block, whole -/
structure Va (ρ : Nat → Nat) (w : World) (i g : Nat) (t : TypeId) (cs : List Value) : Prop where
  blk : w.heap[g]? = some (.cells cs.toArray t (0, 0))
  rho : ρ g = i
theorem Va.lt {t : TypeId} (h : Va ρ w i g t cs) : g < w.heap.size := blk_lt h.blk
theorem Va.adv {t : TypeId} (h : Va ρ w j g t cs) (hA : Adv i ρ w ρ' w') (hne : j ≠ i) : Va ρ' w' j g t cs :=
  ⟨(hA.blk g h.lt (by rw [h.rho]; exact hne)).trans h.blk, (hA.rho g h.lt).trans h.rho⟩
theorem Va.ext {t : TypeId} (h : Va ρ w i g t cs) (hE : Ext ρ w ρ' w') : Va ρ' w' i g t cs := ⟨(hE.below.block g h.lt).trans h.blk, (hE.rho g h.lt).trans h.rho⟩
theorem Va.tr {t : TypeId} (h : Va ρ w i g t cs) (hE : Tr i ρ w ρ' w') : Va ρ' w' i g t cs := ⟨(hE g h.lt h.rho).2.trans h.blk, (hE g h.lt h.rho).1⟩
theorem Va.cl {t : TypeId} (h : Va ρ w i g t cs) : Cl w ⟨g, 0, none⟩ 0 cs := fun j u hu => by
  rw [Nat.zero_add, add_plain, cell_of_row w g j cs.toArray t (0, 0) h.blk]
  simpa using hu
theorem r_box {v : Value} (i : Nat) (hw : Wd w0 ρ w) (hf : Fr n a L) (hx : ev L x = some v) (hc : v.cells.toList = cs) :
    ∃ u w', (execOp a.eval ⟨dd, .box T x, ty, pos, af, gd⟩).run P w = .ok (.value u) w' ∧
      ∃ g ρ', u = .pointer (some ((⟨g, 0, none⟩ : Addr).add 0)) ∧ Wd w0 ρ' w' ∧ Ext ρ w ρ' w' ∧ Va ρ' w' i g T cs := by
  have hb : Below w.heap.size w (w.alloc (.cells cs.toArray T)) := (Below.refl _ _).alloc (Nat.le_refl _) _
  refine ⟨_, w.alloc (.cells cs.toArray T), ?_, w.heap.size, ownr ρ w i, rfl, hw.new i hb, Ext.new i hb, ⟨heap_alloc_new w _, own_new (Nat.le_refl _)⟩⟩
  have e : v.cells = cs.toArray := by rw [← hc]
  simp [execOp, hf.ev hx, Instr.box, newVar, newRow, e, Addr.add]
theorem r_alloc (i : Nat) {z : Value} (hz : (P.info? T).bind (·.zero) = some z) (hc : z.cells.toList = cs) (hw : Wd w0 ρ w) :
    ∃ u w', (execOp a.eval ⟨dd, .alloc T, ty, pos, af, gd⟩).run P w = .ok (.value u) w' ∧
      ∃ g ρ', u = .pointer (some ((⟨g, 0, none⟩ : Addr).add 0)) ∧ Wd w0 ρ' w' ∧ Ext ρ w ρ' w' ∧ Va ρ' w' i g T cs := by
  have hb : Below w.heap.size w (w.alloc (.cells cs.toArray T)) := (Below.refl _ _).alloc (Nat.le_refl _) _
  refine ⟨_, w.alloc (.cells cs.toArray T), ?_, w.heap.size, ownr ρ w i, rfl, hw.new i hb, Ext.new i hb, ⟨heap_alloc_new w _, own_new (Nat.le_refl _)⟩⟩
  have e : z.cells = cs.toArray := by rw [← hc]
  obtain ⟨d, hd, hz⟩ := Option.bind_eq_some_iff.1 hz
  simp [execOp, Instr.alloc, zeroValue, typeInfo, hd, hz, newVar, newRow, e, Addr.add]
/-- a store into a part of a variable -/
theorem r_store {t : TypeId} {v : Value} {ag : Bool} {seg : List Value} (hw : Wd w0 ρ w) (hv : Va ρ w i g t cs) (hi : i ≠ 0) (hT : Ty P T m ag) (hf : Fr n a L) (hx : ev L x = some (.pointer (some ((⟨g, 0, none⟩ : Addr).add k)))) (hy : ev L y = some v)
    (hs : v.cells.toList = seg) (hl : seg.length = m) (hk : k + m ≤ cs.length) (h1 : ∀ u ∈ seg, u.oneCell' = true) :
    ∃ w', (execOp a.eval ⟨dd, .store T x y, ty, pos, af, gd⟩).run P w = .ok .skip w' ∧ Wd w0 ρ w' ∧ Adv i ρ w ρ w' ∧ Va ρ w' i g t (cs.take k ++ seg ++ cs.drop (k + m)) := by
  have hst := run_storeCells_at P g k t seg 0 cs.toArray w hv.blk (by simpa [hl] using hk) h1
  simp only [Nat.add_zero] at hst
  have hc : v.cells.size = m := by rw [← hl, ← hs, Array.length_toList]
  have hfar : ∀ b, b ≠ g → (w.setRow g (cs.take k ++ seg ++ cs.drop (k + m)).toArray).heap[b]? = w.heap[b]? := fun b hb => setRow_other w g b _ hb
  refine ⟨w.setRow g (cs.take k ++ seg ++ cs.drop (k + m)).toArray, ?_, ⟨hw.below.trans ⟨rfl, rfl, rfl, by simp, fun b hb => hfar b ?_, Nat.le_refl _⟩, hw.own⟩, ⟨by simp, fun _ _ => rfl, fun b hb hne => hfar b ?_⟩, ⟨setRow_heap w g cs.toArray _ t _ hv.blk, hv.rho⟩⟩
  · simp only [execOp, hf.ev hx, hf.ev hy, Instr.storeAt, Instr.sureAddr, storeVar]
    simp only [Sem.run_bind, Sem.run_pure, Result.andThen_ok, run_size hT, hc, add_plain, hs]
    simp only [ne_eq, not_true_eq_false, if_false, Sem.run_pure, Result.andThen_ok]
    rw [hst]
    simp [hl]
  · rintro rfl
    have := hw.own b (by rw [hv.rho]; exact hi)
    omega
  · rintro rfl
    exact hne hv.rho
theorem res_tmp {fn : Func} {t : Tmp} {v : Value} (h : fn.results = #[.tmp t]) (hf : Fr n a L) (hx : look L t = some v) : (results fn a.tmps).run P w = .ok v w := by
  rw [results_tmp h]
  have := hf.l t v hx
  simp [this]
theorem res_tt {fn : Func} {t u : Tmp} {v v' : Value} (h : fn.results = #[.tmp t, .tmp u]) (hf : Fr n a L) (hx : look L t = some v) (hu : look L u = some v') : (results fn a.tmps).run P w = .ok (.tuple #[v, v']) w := by
  have h1 := hf.l t _ hx
  have h2 := hf.l u _ hu
  simp [results, h, h1, h2]
theorem c_ret {fn : Func} {R : Ending → World → Prop} {v : Value} (hf : Fr n a L) (hr : (results fn a.tmps).run P w = .ok v w) (hR : R (.returned v) w) : bodyPost P fn R .ret a w := ⟨hf.d, v, hr, hR⟩
theorem fillOne {place : Nat → Option (Nat × Nat)} {cells : Array Value} {r : List (Nat × Value)} {t off sz : Nat} {v : Value} (hp : place t = some (off, sz)) (hs : v.cells.size = sz) (hfit : off + v.cells.size ≤ cells.size) :
    Instr.fill place cells ((t, v) :: r) = Instr.fill place (v.cells.zipIdx.foldl (fun cs (c, j) => cs.setIfInBounds (off + j) c) cells) r := by
  rw [Instr.fill]
  simp only [hp]
  rw [if_neg (by simp [hs]; omega)]
end Go.Proofs.YtB

/- Words of this seat's own: slices that are read, slices of the call's own; len, append, make, cuts, literals, elements. -/
set_option linter.unusedVariables false
set_option linter.unusedSimpArgs false
set_option linter.unusedSectionVars false
namespace Go.Proofs.YtB
open Go Go.RowKit
open Go.Proofs.YtbhaeajdabgnhaaW.PrintWords
variable {P : Program} {n : Nat} {a : Act} {L : List (Nat × Value)} {w w' w0 : World} {Q : Exit → Act → World → Prop} {ops : Array Oper} {rest : List Oper} {o : Oper}
variable {x y : Operand} {p q : Int} {T T' ty : TypeId} {pos : String} {af : Array Edge} {gd : Option (Nat × Bool)} {dd : Option Tmp} {ad : Addr} {k : Nat} {cs : List Value} {m : Nat}
variable {ρ ρ' : Nat → Nat} {i j g e B : Nat} {α β : Type} {d : Kd α} {xs ys : List α} {v u : Value}
/-- elements without memory -/
def kf (d : Fl α) : Kd α where
  sz := d.n
  E := []
  K := fun _ x cs => cs = d.enc x
  M := fun _ _ _ x cs => cs = d.enc x
  K_len := fun h => by rw [h]; exact d.len _
  K_one := fun h u hu => by rw [h] at hu; exact d.one _ u hu
  K_below := fun _ h => h
  K_of_M := fun h => h
  M_mono := fun _ h => h
  M_bound := fun h => h
  M_move := fun _ h => h
  M_lower := fun _ h => h
/-- a slice that is read -/
def Ro (d : Kd α) (w : World) (v : Value) (xs : List α) : Prop := ∃ A c, v = .slice A xs.length c ∧ xs.length ≤ c ∧ d.C w A xs.length xs
/-- a slice of the call's own, i's -/
def Ow (d : Kd α) (e : Nat) (ρ : Nat → Nat) (w : World) (B i : Nat) (v : Value) (xs : List α) : Prop := d.R e w B (fun k => ρ k = i) v xs
theorem Ro.below (h : Ro d w v xs) (hb : Below w.heap.size w w') : Ro d w' v xs := by
  obtain ⟨A, c, h1, h2, h3⟩ := h
  exact ⟨A, c, h1, h2, Kd.C_below h3 hb.k⟩
theorem Ro.now (h : Ro d w0 v xs) (hw : Wd w0 ρ w) : Ro d w v xs := h.below hw.below
theorem Ow.ro (h : Ow d e ρ w B i v xs) : Ro d w v xs := Kd.R_reads h
theorem Ow.adv (h : Ow d e ρ w B j v xs) (hA : Adv i ρ w ρ' w') (hne : j ≠ i) : Ow d e ρ' w' B j v xs := by
  have h1 := Kd.R_bound h
  have h2 := Kd.R_move (w1 := w') h1 (fun k hk => hA.blk k hk.2.2.1 (by rw [hk.1]; exact hne))
  exact Kd.R_mono h2 (fun k hk => (hA.rho k hk.2.2.1).trans hk.1)
theorem Ow.tr (h : Ow d e ρ w B j v xs) (hE : Tr j ρ w ρ' w') : Ow d e ρ' w' B j v xs := by
  have h1 := Kd.R_bound h
  have h2 := Kd.R_move (w1 := w') h1 (fun k hk => (hE k hk.2.2.1 hk.1).2)
  exact Kd.R_mono h2 (fun k hk => (hE k hk.2.2.1 hk.1).1)
theorem Ow.ext (h : Ow d e ρ w B j v xs) (hE : Ext ρ w ρ' w') : Ow d e ρ' w' B j v xs := h.tr fun k h1 h2 => ⟨(hE.rho k h1).trans h2, hE.below.block k h1⟩
theorem Ro.ext (h : Ro d w v xs) (hE : Ext ρ w ρ' w') : Ro d w' v xs := h.below hE.below
theorem Ow.fresh {ok : Nat → Prop} (h : d.R e w' w.heap.size ok v xs) (hB : B ≤ w.heap.size) (i : Nat) : Ow d e (ownr ρ w i) w' B i v xs :=
  Kd.R_lower (Kd.R_mono (Kd.R_bound h) (fun k hk => own_new hk.2.1)) hB
theorem Ow.nil (d : Kd α) (e : Nat) (ρ : Nat → Nat) (w : World) (B i : Nat) : Ow d e ρ w B i (.slice none 0 0) [] := Kd.R_nil d e w B _
theorem Ro.nil (d : Kd α) (w : World) (c : Nat) : Ro d w (.slice none 0 c) [] := ⟨none, c, rfl, Nat.zero_le _, Kd.C_nil d w⟩
/-- the call's answer: a slice that it made -/
def Fresh (d : Kd α) (e : Nat) (w0 w' : World) (v : Value) (xs : List α) : Prop := d.R e w' w0.heap.size (fun _ => True) v xs
theorem Ow.out (h : Ow d e ρ w w0.heap.size i v xs) : Fresh d e w0 w v xs := Kd.R_mono h (fun _ _ => trivial)
theorem Fresh.own (h : Fresh d e w w' v xs) (hB : B ≤ w.heap.size) (i : Nat) : Ow d e (ownr ρ w i) w' B i v xs := Ow.fresh h hB i
theorem Fresh.ro (h : Fresh d e w w' v xs) : Ro d w' v xs := Kd.R_reads h

theorem r_len (hT : P.underlying T = some (.slice e)) (hv : Ro d w v xs) (hf : Fr n a L) (hx : ev L x = some v) :
    (execOp a.eval ⟨dd, .call ⟨.builtin .len, #[x], #[T]⟩, ty, pos, af, gd⟩).run P w = .ok (.value (.int .i64 (xs.length : Int))) w := by
  obtain ⟨A, c, rfl, h2, h3⟩ := hv
  simp [execOp, resolve, invoke, builtin, hf.ev hx, Builtin.len_, run_underlying hT, goInt]
def gl (z : α) (xs : List α) (i : Int) : α := xs.getD i.toNat z
/-- the address of an element; what lies there -/
theorem Ro.el (d : Fl α) (h : Ro (kf d) w v xs) (z : α) (h0 : 0 ≤ p) (h1 : p < xs.length) : ∃ ad c, v = .slice (some ad) xs.length c ∧ Cl w ad (p.toNat * d.n) (d.enc (gl z xs p)) := by
  obtain ⟨A, c, rfl, h2, h3⟩ := h
  obtain ⟨ad, cs, rfl, _, hK, hc⟩ := Kd.C_get h3 z p h0 h1
  have hK' : cs = d.enc (xs.getD p.toNat z) := hK
  subst hK'
  exact ⟨ad, c, rfl, hc⟩
/-- the same where elements are slices -/
theorem Ro.el_row {d : Kd β} {xs : List (List β)} (h : Ro (Kd.slice e d) w v xs) (h0 : 0 ≤ p) (h1 : p < xs.length) : ∃ ad c u, v = .slice (some ad) xs.length c ∧ Cl w ad (p.toNat * 1) [u] ∧ Ro d w u (gl [] xs p) := by
  obtain ⟨A, c, rfl, h2, h3⟩ := h
  obtain ⟨ad, cs, rfl, _, hK, hc⟩ := Kd.C_get h3 [] p h0 h1
  obtain ⟨A', c', rfl, hl, hC⟩ := hK
  exact ⟨ad, c, _, rfl, hc, A', c', rfl, hl, hC⟩
theorem r_idx {sz : Nat} (hT : P.underlying T = some (.slice e)) (hs : (P.info? e).map (·.size) = some sz) (hf : Fr n a L) (hx : ev L x = some v) (hv : ∃ c, v = .slice (some ad) m c) (hy : ev L y = some (.int .i64 p)) (h0 : 0 ≤ p) (h1 : p < m) :
    (execOp a.eval ⟨dd, .indexAddr T x y, ty, pos, af, gd⟩).run P w = .ok (.value (.pointer (some (ad.add (p.toNat * sz))))) w := by
  obtain ⟨c, rfl⟩ := hv
  exact r_indexAddr_sl hT hs hf hx hy h0 h1

structure El (P : Program) (e sz bytes : Nat) (z : Value) : Prop where
  i : ∃ i, P.info? e = some i ∧ i.zero = some z ∧ i.size = sz ∧ i.bytes = bytes
  z : z.cells.size = sz
  s : 0 < sz
  b : 0 < bytes
theorem El.mk' {sz bytes : Nat} {z : Value} (h : (P.info? e).map (fun i => (i.zero, i.size, i.bytes)) = some (some z, sz, bytes)) (hz : z.cells.size = sz) (hs : 0 < sz) (hb : 0 < bytes) : El P e sz bytes z := by
  obtain ⟨i, hi, hh⟩ := Option.map_eq_some_iff.1 h
  simp only [Prod.mk.injEq] at hh
  exact ⟨⟨i, hi, hh.1, hh.2.1, hh.2.2⟩, hz, hs, hb⟩
theorem run_app {bytes c : Nat} {z : Value} {Rr : α → List Value → Prop} {ok okp : Nat → Prop} {A : Option Addr} (hT : P.underlying T = some (.slice e)) (he : El P e d.sz bytes z)
    (HO : d.R e w B ok v xs) (HR : ReadsRow Rr d.sz w A m ys) (hKM : ∀ x cs, Rr x cs → d.M w B okp x cs) (hokp : ∀ k, okp k → ok k ∧ some k ≠ v.ownBlock) (hfresh : ∀ k, w.heap.size ≤ k → ok k) (hbase : B ≤ w.heap.size) (hl : (xs.length + m) * bytes ≤ 140737488355328) :
    ∃ v1 w1, (Builtin.append_ #[T, T] ty #[v, .slice A m c]).run P w = .ok v1 w1 ∧ d.R e w1 B ok v1 (xs ++ ys) ∧ w.grownBy w1 v.ownBlock ∧ w.drawn ≤ w1.drawn := by
  obtain ⟨⟨i0, hi, hz0, hz1, hz2⟩, hz, hs0, hb0⟩ := he
  have hm : ys.length = m := HR.1
  have hlen : xs.length + m ≤ 140737488355328 := Nat.le_trans (Nat.le_mul_of_pos_right _ hb0) hl
  obtain ⟨hok, inner, hown, hr⟩ := HO
  cases A with
  | none =>
    have h0 : m = 0 := by
      rcases Nat.eq_zero_or_pos m with h0 | h0
      · exact h0
      · obtain ⟨ad, h, _⟩ := HR.2.2 h0
        cases h
    subst h0
    obtain rfl : ys = [] := List.eq_nil_of_length_eq_zero hm
    refine ⟨v, w, ?_, by rw [List.append_nil]; exact ⟨hok, inner, hown, hr⟩, World.grownBy.refl w _, Nat.le_refl _⟩
    rcases hown.2 with ⟨rfl, hn⟩ | ⟨g, cap, cur, rfl, _, _, hnc, _⟩
    · simp [Builtin.append_, run_underlying hT, sizeOf, typeInfo, hi, Builtin.lenOf, Builtin.firstCells]
    · simp [Builtin.append_, run_underlying hT, sizeOf, typeInfo, hi, Builtin.lenOf, Builtin.firstCells, hnc, storeCells]
  | some ad =>
    obtain ⟨news, hnr, hnc⟩ := ReadsRow.inner_ HR
    have hnM : Reps (d.M w B okp) d.sz ys news := hnr.imp_ (fun p c hp => hKM p c hp)
    have hone : ∀ u ∈ news, u.oneCell' = true := by
      intro u hu
      obtain ⟨q, hq, rfl⟩ := List.mem_iff_getElem.1 hu
      have hql : q / d.sz < ys.length := by
        rw [Nat.div_lt_iff_lt_mul hs0, ← hnM.1]
        exact hq
      refine d.K_one (d.K_of_M (hnM.2 (q / d.sz) _ (List.getElem?_eq_getElem hql))) _ ?_
      rw [List.mem_iff_getElem?]
      refine ⟨q % d.sz, ?_⟩
      rw [List.getElem?_take, if_pos (Nat.mod_lt _ hs0), List.getElem?_drop, Nat.mul_comm, Nat.div_add_mod, List.getElem?_eq_getElem hq]
    obtain ⟨v1, w1, hrun, h2, hg, _, hat⟩ := run_append_own_at (P := P) w B T ty e i0 z d.sz bytes hT hi hz0 hz1 hz2 hz hs0 v xs.length inner hown ad m c news (by rw [hnM.1, hm]) hnc hone (by simp only [maxLen]; omega) hl hbase
    have hne : ∀ k, some k ≠ v.ownBlock → k < w.heap.size → some k ≠ v1.ownBlock := by
      intro k hk hlt
      rcases hat with hat | hb
      · rw [hat]; exact hk
      · rw [hb]
        intro he
        injection he with he
        omega
    have step : ∀ {q : α} {c : List Value} {o : Nat → Prop}, d.M w B o q c → (∀ k, o k → ok k ∧ some k ≠ v.ownBlock) → d.M w1 B (fun k => ok k ∧ some k ≠ v1.ownBlock) q c := by
      intro q c o hq ho
      have h1 := d.M_move (w1 := w1) (fun k hk => hg.block k hk.2.2.1 (ho k hk.1).2) (d.M_bound hq)
      exact d.M_mono (fun k hk => ⟨(ho k hk.1).1, hne k (ho k hk.1).2 hk.2.2.1⟩) h1
    refine ⟨v1, w1, hrun, ⟨fun k hk => ?_, inner ++ news, by rw [List.length_append, hm]; exact h2, Kd.reps_append (hr.imp_ (fun _ _ hq => step hq (fun _ hk => hk))) (hnM.imp_ (fun _ _ hq => step hq hokp))⟩, hg, run_drawn _ _ hrun⟩
    rcases hat with hat | hb
    · exact hok k (hat ▸ hk)
    · rw [hb] at hk
      injection hk with hk
      exact hfresh k (by omega)
theorem execApp {s t : Operand} {vs vt : Value} (hf : Fr n a L) (hs : ev L s = some vs) (ht : ev L t = some vt) {r : Result Value} (hr : (Builtin.append_ #[T, T] ty #[vs, vt]).run P w = r) :
    (execOp a.eval ⟨dd, .call ⟨.builtin .append, #[s, t], #[T, T]⟩, ty, pos, af, gd⟩).run P w = r.andThen fun v w' => .ok (.value v) w' := by
  simp [execOp, resolve, invoke, builtin, hf.ev hs, hf.ev ht, hr]
theorem Wd.grown (hw : Wd w0 ρ w) (hg : w.grownBy w' u.ownBlock) (hk : ∀ k, u.ownBlock = some k → ρ k = i) (hi : i ≠ 0) (hd : w.drawn ≤ w'.drawn) : Wd w0 (ownr ρ w i) w' ∧ Adv i ρ w (ownr ρ w i) w' := by
  refine ⟨⟨hw.below.grown hg hw.below.size (fun k h => hw.own k (by rw [hk k h]; exact hi)) hd, fun k h => ?_⟩, ⟨hg.size, fun k h => own_old h, fun k h hne => hg.block k h (fun he => hne (hk k he.symm))⟩⟩
  rcases Nat.lt_or_ge k w.heap.size with h1 | h1
  · rw [own_old h1] at h; exact hw.own k h
  · exact Nat.le_trans hw.below.size h1
/-- append(v, ys...), elements without memory -/
theorem r_append {d : Fl α} {bytes : Nat} {z : Value} (hT : P.underlying T = some (.slice e)) (he : El P e d.n bytes z) (hw : Wd w0 ρ w) (hi : i ≠ 0) (hv : Ow (kf d) e ρ w w0.heap.size i v xs) (hu : Ro (kf d) w u ys)
    (hl : (xs.length + ys.length) * bytes ≤ 140737488355328) (hf : Fr n a L) (hx : ev L x = some v) (hy : ev L y = some u) :
    ∃ v1 w1, (execOp a.eval ⟨dd, .call ⟨.builtin .append, #[x, y], #[T, T]⟩, ty, pos, af, gd⟩).run P w = .ok (.value v1) w1 ∧ ∃ ρ', Wd w0 ρ' w1 ∧ Adv i ρ w ρ' w1 ∧ Ow (kf d) e ρ' w1 w0.heap.size i v1 (xs ++ ys) := by
  obtain ⟨A, c, rfl, _, hC⟩ := hu
  have hO : (kf d).R e w w0.heap.size (fun k => ownr ρ w i k = i) v xs := Kd.R_mono (Kd.R_bound hv) (fun k hk => (own_old hk.2.2.1).trans hk.1)
  obtain ⟨v1, w1, hr, h1, hg, hdr⟩ := run_app (d := kf d) (okp := fun _ => False) (c := c) (ty := ty) hT he hO hC (fun x cs h => h) (fun _ h => h.elim) (fun k hk => own_new hk) hw.below.size hl
  obtain ⟨h2, h3⟩ := hw.grown hg (fun k hk => hv.1 k hk) hi hdr
  exact ⟨v1, w1, by rw [execApp hf hx hy hr]; rfl, _, h2, h3, h1⟩
/-- append(v, ys...), elements that are slices; the row of the new ones is the call's own (j's), and goes into it -/
theorem r_append_own {d : Kd α} {bytes : Nat} {z : Value} (hT : P.underlying T = some (.slice e)) (he : El P e d.sz bytes z) (hw : Wd w0 ρ w) (hi : i ≠ 0) (hj : j ≠ 0) (hij : i ≠ j) (hv : Ow d e ρ w w0.heap.size i v xs) (hu : Ow d e ρ w w0.heap.size j u ys)
    (hl : (xs.length + ys.length) * bytes ≤ 140737488355328) (hf : Fr n a L) (hx : ev L x = some v) (hy : ev L y = some u) :
    ∃ v1 w1, (execOp a.eval ⟨dd, .call ⟨.builtin .append, #[x, y], #[T, T]⟩, ty, pos, af, gd⟩).run P w = .ok (.value v1) w1 ∧ ∃ ρ', Wd w0 ρ' w1 ∧ (∀ b, b ≠ i → b ≠ j → Tr b ρ w ρ' w1) ∧ Ow d e ρ' w1 w0.heap.size i v1 (xs ++ ys) := by
  obtain ⟨A, c, rfl, _, hC⟩ := OwnRow.reads hu.2
  let ρ1 : Nat → Nat := fun k => if k < w.heap.size then (if ρ k = j then i else ρ k) else i
  have e1 : ∀ k, k < w.heap.size → ρ k = i → ρ1 k = i := fun k h1 h2 => by simp [ρ1, h1, h2]
  have e2 : ∀ k, k < w.heap.size → ρ k = j → ρ1 k = i := fun k h1 h2 => by simp [ρ1, h1, h2]
  have hO : d.R e w w0.heap.size (fun k => ρ1 k = i) v xs := Kd.R_mono (Kd.R_bound hv) (fun k hk => e1 k hk.2.2.1 hk.1)
  obtain ⟨v1, w1, hr, h1, hg, hdr⟩ := run_app (d := d) (c := c) (ty := ty) (okp := fun k => ρ k = j ∧ k < w.heap.size) hT he hO hC (fun x cs h => d.M_mono (fun k hk => ⟨hk.1.1, hk.2.2.1⟩) (d.M_bound h))
    (fun k hk => ⟨e2 k hk.2 hk.1, fun he => by have := hv.1 k he.symm; omega⟩) (fun k hk => by simp [ρ1]; omega) hw.below.size hl
  have hb : ∀ k, k < w.heap.size → ρ k ≠ i → w1.heap[k]? = w.heap[k]? := fun k h hne => hg.block k h (fun he => hne (hv.1 k he.symm))
  refine ⟨v1, w1, by rw [execApp hf hx hy hr]; rfl, ρ1, ⟨hw.below.grown hg hw.below.size (fun k h => hw.own k (by rw [hv.1 k h]; exact hi)) hdr, fun k h => ?_⟩, fun b hbi hbj k hk hρ => ⟨by simp [ρ1, hk, hρ, hbj], hb k hk (by omega)⟩, h1⟩
  rcases Nat.lt_or_ge k w.heap.size with h2 | h2
  · refine hw.own k (fun h0 => h ?_)
    simp [ρ1, h2, h0, Ne.symm hj]
  · exact Nat.le_trans hw.below.size h2
end Go.Proofs.YtB

/- Words of this seat's own: literals, make, cuts, stores into elements of the call's own slices. -/
set_option linter.unusedVariables false
set_option linter.unusedSimpArgs false
set_option linter.unusedSectionVars false
namespace Go.Proofs.YtB
open Go Go.RowKit
open Go.Proofs.YtbhaeajdabgnhaaW.PrintWords
variable {P : Program} {n : Nat} {a : Act} {L : List (Nat × Value)} {w w' w0 : World} {Q : Exit → Act → World → Prop} {ops : Array Oper} {rest : List Oper} {o : Oper}
variable {x y : Operand} {p q : Int} {T T' ty : TypeId} {pos : String} {af : Array Edge} {gd : Option (Nat × Bool)} {dd : Option Tmp} {ad : Addr} {k : Nat} {cs : List Value} {m : Nat}
variable {ρ ρ' : Nat → Nat} {i j g e B : Nat} {α β : Type} {d : Kd α} {xs ys : List α} {v u : Value}
theorem foldl_set (off : Nat) : ∀ (vs : List Value) (j : Nat) (cs : Array Value), off + j + vs.length ≤ cs.size →
    ((vs.zipIdx j).foldl (fun (cs : Array Value) (p : Value × Nat) => cs.setIfInBounds (off + p.2) p.1) cs) = (cs.toList.take (off + j) ++ vs ++ cs.toList.drop (off + j + vs.length)).toArray
  | [], j, cs, h => by simp
  | v :: vs, j, cs, h => by
    rw [List.zipIdx_cons, List.foldl_cons, foldl_set off vs (j + 1) _ (by simpa [Nat.add_assoc, Nat.add_comm 1] using h)]
    have hl : off + j < cs.size := by simp at h; omega
    congr 1
    apply List.ext_getElem?
    intro t
    simp only [Array.toList_setIfInBounds, List.getElem?_append, List.length_append, List.length_take, List.length_set, Array.length_toList, List.getElem?_take, List.getElem?_set, List.getElem?_drop, List.length_cons, List.getElem?_cons]
    repeat' split
    all_goals first
      | rfl
      | omega
      | (congr 1; omega)
theorem fill_step {place : Nat → Option (Nat × Nat)} {r : List (Nat × Value)} {t off sz : Nat} {cs seg : List Value} (hp : place t = some (off, sz)) (hv : v.cells.toList = seg) (hs : seg.length = sz) (hfit : off + sz ≤ cs.length) :
    Instr.fill place cs.toArray ((t, v) :: r) = Instr.fill place (cs.take off ++ seg ++ cs.drop (off + sz)).toArray r := by
  have hc : v.cells.size = sz := by rw [← hs, ← hv, Array.length_toList]
  rw [fillOne hp hc (by simp [hc]; omega)]
  congr 1
  have h := foldl_set off seg 0 cs.toArray (by simp; omega)
  rw [← Array.foldl_toList]
  have e : v.cells.zipIdx.toList = seg.zipIdx := by rw [← hv]; simp
  rw [e]
  simpa [hs] using h
def placeOf (fs : List (Nat × Nat)) (i : Nat) : Option (Nat × Nat) := fs[i]?
theorem run_places {fs : List Field} {pl : List (Nat × Nat)} (h : fs.map (fun f => ((P.info? f.type).map (fun i => (f.offset, i.size)))) = pl.map some) (w : World) :
    (fs.mapM (fun f => do pure (f.offset, ← sizeOf f.type) : Field → Sem (Nat × Nat))).run P w = .ok pl w := by
  induction fs generalizing pl with
  | nil => cases pl with
    | nil => simp
    | cons => cases h
  | cons f fs ih => cases pl with
    | nil => cases h
    | cons p pl =>
      simp only [List.map_cons, List.cons.injEq] at h
      obtain ⟨i, h1, h2⟩ := Option.map_eq_some_iff.1 h.1
      have hsz : (sizeOf f.type).run P w = .ok i.size w := by simp [sizeOf, typeInfo, h1]
      rw [List.mapM_cons]
      simp only [Sem.run_bind, Sem.run_pure, hsz, Result.andThen_ok, ih h.2, h2]
theorem r_build_struct {pl : List (Nat × Nat)} {fs : List Field} {z : Value} {res : Array Value} {l : List (Nat × Operand)} {vs : List (Nat × Value)} (hT : P.underlying T = some (.struct fs.toArray)) (hs : fs.map (fun f => ((P.info? f.type).map (fun i => (f.offset, i.size)))) = pl.map some) (hz : (P.info? T).bind (·.zero) = some z) (hf : Fr n a L) (hl : l.map (fun p => ev L p.2) = vs.map (fun p => some p.2)) (hi : l.map (·.1) = vs.map (·.1))
    (hfill : Instr.fill (placeOf pl) z.cells vs = some res) :
    (execOp a.eval ⟨dd, .build T l.toArray, ty, pos, af, gd⟩).run P w = .ok (.value (.agg res)) w := by
  have hm : l.map (fun p => (p.1, a.eval p.2)) = vs := by
    clear hfill hs
    induction l generalizing vs with
    | nil => cases vs with
      | nil => rfl
      | cons => cases hl
    | cons o l ih => cases vs with
      | nil => cases hl
      | cons u vs =>
        simp only [List.map_cons, List.cons.injEq] at hl hi
        rw [List.map_cons, hf.ev hl.1, ih hl.2 hi.2, hi.1]
  obtain ⟨i1, h3, h4⟩ := Option.bind_eq_some_iff.1 hz
  have hp := run_places hs w
  have hpl : (fun i => pl.toArray[i]?) = placeOf pl := by funext i; simp [placeOf]
  have hzv : (zeroValue T).run P w = .ok z w := by simp [zeroValue, typeInfo, h3, h4]
  simp only [execOp, Instr.build, Sem.run_bind, Sem.run_pure, Result.andThen_ok, run_underlying hT, List.mapM_toArray, List.map_toArray, Sem.run_map, hzv, hp, hm, hpl, hfill]

theorem reps_flat (d : Fl α) (xs : List α) {R : α → List Value → Prop} (hR : ∀ x, R x (d.enc x)) : Reps R d.n xs (xs.flatMap d.enc) := by
  refine ⟨flatMap_len d xs, fun j p hj => ?_⟩
  have hl := (List.getElem?_eq_some_iff.1 hj).1
  rw [flatMap_get d xs j p hl, List.getD_eq_getElem?_getD, hj]
  exact hR p
/-- a row of the call's own, just laid -/
theorem lit_ow {d : Kd α} {inner : List Value} {okp : Nat → Prop} (i : Nat) (hw : Wd w0 ρ w) (hrep : Reps (d.M w w0.heap.size okp) d.sz xs inner) (hm : xs.length ≤ 9223372036854775807) (hok : ∀ k, okp k → k < w.heap.size → ρ' k = i) (hnew : ∀ k, w.heap.size ≤ k → ρ' k = i) :
    Ow d e ρ' (w.alloc (.cells inner.toArray e)) w0.heap.size i (.slice (some ⟨w.heap.size, 0, none⟩) xs.length xs.length) xs := by
  refine ⟨fun k hk => ?_, inner, ?_, ?_⟩
  · have : w.heap.size = k := by simpa [Value.ownBlock] using hk
    subst this
    exact hnew _ (Nat.le_refl _)
  · have h2 := World.ownsRow_lit (base := w0.heap.size) (e := e) (size := d.sz) w inner.toArray xs.length hw.below.size (by simpa [maxLen] using hm) (by simpa using hrep.1)
    simpa using h2
  · refine hrep.imp_ (fun p c hp => d.M_mono (fun k hk => ⟨hok k hk.1 hk.2.2.1, fun he => ?_⟩) (Kd.M_below (d.M_bound hp) (below_alloc (Go.RowKit.Below.refl _ _) _)))
    have h3 : k = w.heap.size := by simpa [Value.ownBlock] using he
    have := hk.2.2.1
    omega
theorem r_make {d : Fl α} {bytes : Nat} {z : Value} {z0 : α} (i : Nat) (hT : P.underlying T = some (.slice e)) (he : El P e d.n bytes z) (hz : z.cells.toList = d.enc z0) (hw : Wd w0 ρ w) (hf : Fr n a L) (hx : ev L x = some (.int .i64 p)) (h0 : 0 ≤ p) (hl : p.toNat * bytes ≤ 281474976710656) :
    ∃ v w', (execOp a.eval ⟨dd, .makeSlice T x x, ty, pos, af, gd⟩).run P w = .ok (.value v) w' ∧ ∃ ρ', Wd w0 ρ' w' ∧ Ext ρ w ρ' w' ∧ Ow (kf d) e ρ' w' w0.heap.size i v (List.replicate p.toNat z0) := by
  obtain ⟨⟨i0, hi, hz0, hz1, hz2⟩, hzs, hs0, hb0⟩ := he
  obtain ⟨m, rfl⟩ := Int.eq_ofNat_of_zero_le h0
  simp only [Int.toNat_natCast] at hl ⊢
  have hm : m ≤ 281474976710656 := Nat.le_trans (Nat.le_mul_of_pos_right _ hb0) hl
  have hr := run_make (P := P) w T e i0 z hT hi hz0 .i64 .i64 (m : Int) (m : Int) (by omega) (by omega)
    (by
      have h3 : ((i0.bytes * m : Nat) : Int) ≤ 281474976710656 := by rw [hz2, Nat.mul_comm]; omega
      rwa [Int.natCast_mul] at h3) (by omega)
  simp only [Int.toNat_natCast] at hr
  rw [hz1] at hr
  have hb : Below w.heap.size w (w.alloc (.cells (madeCells z.cells (m * d.n)) e)) := (Below.refl _ _).alloc (Nat.le_refl _) _
  refine ⟨.slice (some ⟨w.heap.size, 0, none⟩) m m, w.alloc (.cells (madeCells z.cells (m * d.n)) e), by simp [execOp, hf.ev hx, hr], ownr ρ w i, hw.new i hb, Ext.new i hb, ?_⟩
  have h := lit_ow (d := kf d) (e := e) (ρ' := ownr ρ w i) (xs := List.replicate m z0) (inner := (madeCells z.cells (m * d.n)).toList) (okp := fun _ => False) i hw (Kd.reps_made hzs hs0 (by show z.cells.toList = d.enc z0; exact hz) m) (by simp; omega) (fun _ h => h.elim) (fun k hk => own_new hk)
  simpa using h
theorem run_buildSlice {len sz bytes : Nat} {z : Value} {vs : List (Nat × Value)} {res : List Value} (hT : P.underlying T = some (.slice e)) (he : El P e sz bytes z) (hlen : len * sz ≤ 16777216) (hfill : ∀ c : Array Value, c.size = len * sz → Instr.fill (fun i => some (i * sz, sz)) c vs = some res.toArray) (w : World) :
    (Instr.buildSlice T len vs.toArray).run P w = .ok (.slice (some ⟨w.heap.size, 0, none⟩) len len) (w.alloc (.cells res.toArray e)) := by
  obtain ⟨⟨i0, hi, hz0, hz1, hz2⟩, hzs, hs0, hb0⟩ := he
  have hn : ¬ (16777216 < len * sz) := by omega
  by_cases h0 : len * sz = 0
  · have := hfill ((Array.range (len * sz)).map ((#[] : Array Value)[· % (#[] : Array Value).size]!)) (by simp)
    simp only [h0] at this
    simp [Instr.buildSlice, run_underlying hT, sizeOf, typeInfo, hi, hz1, h0, newRow]
    try simp at this
    simp [this]
  · have := hfill ((Array.range (len * sz)).map (z.cells[· % z.cells.size]!)) (by simp)
    simp [Instr.buildSlice, run_underlying hT, sizeOf, typeInfo, hi, hz0, hz1, h0, hn, newRow, zeroValue]
    try simp at this
    simp [this]
theorem fill_all {sz : Nat} (segs : List (List Value)) (hs : ∀ s ∈ segs, s.length = sz) : ∀ (l : List (List Value)) (vs : List Value) (k : Nat) (pre : List Value) (c : List Value), (∀ s ∈ l, s.length = sz) → vs.map (fun v => v.cells.toList) = l → pre.length = k * sz → c.length = k * sz + l.length * sz → c.take (k * sz) = pre →
    Instr.fill (fun i => some (i * sz, sz)) c.toArray (vs.mapIdx fun i v => (k + i, v)) = some (pre ++ l.flatten).toArray
  | [], vs, k, pre, c, _, hv, hp, hc, ht => by
    have : vs = [] := by simpa using hv
    subst this
    have : c = pre := by rw [← ht, List.take_of_length_le (by simp at hc; omega)]
    simp [Instr.fill, this]
  | s :: l, vs, k, pre, c, hl, hv, hp, hc, ht => by
    cases vs with
    | nil => cases hv
    | cons v vs =>
      simp only [List.map_cons, List.cons.injEq] at hv
      have hsl : s.length = sz := hl s (by simp)
      have hc' : c.length = k * sz + (l.length * sz + sz) := by simpa [Nat.succ_mul] using hc
      rw [List.mapIdx_cons]
      simp only [Nat.add_zero]
      rw [fill_step (off := k * sz) (sz := sz) rfl hv.1 hsl (by omega)]
      have e : (vs.mapIdx fun i v => (k + (i + 1), v)) = vs.mapIdx fun i v => (k + 1 + i, v) := by
        congr 1
        funext i v
        rw [show k + (i + 1) = k + 1 + i by omega]
      rw [e, fill_all segs hs l vs (k + 1) (pre ++ s) _ (fun s' h => hl s' (by simp [h])) hv.2 (by simp [hp, hsl, Nat.succ_mul]) (by simp [hsl, Nat.succ_mul]; omega) ?_]
      · simp
      · rw [ht, Nat.succ_mul, List.append_assoc, List.take_append, List.take_of_length_le (by omega), List.take_append, hp, List.take_of_length_le (l := s) (by omega)]
        rw [show k * sz + sz - k * sz - s.length = 0 by omega]
        simp
/-- a literal '[]T{..}' of elements without memory -/
theorem r_lit {d : Fl α} {bytes : Nat} {z : Value} {l : List (Nat × Operand)} {vs : List Value} (i : Nat) (hT : P.underlying T = some (.slice e)) (he : El P e d.n bytes z) (hlen : xs.length * d.n ≤ 16777216) (hm : xs.length ≤ 16777216) (hw : Wd w0 ρ w) (hf : Fr n a L)
    (hl : l.map (fun p => ev L p.2) = vs.map some) (hi : l.map (·.1) = List.range xs.length) (hv : vs.map (fun v => v.cells.toList) = xs.map d.enc) :
    ∃ v w', (execOp a.eval ⟨dd, .buildSlice T xs.length l.toArray, ty, pos, af, gd⟩).run P w = .ok (.value v) w' ∧ ∃ ρ', Wd w0 ρ' w' ∧ Ext ρ w ρ' w' ∧ Ow (kf d) e ρ' w' w0.heap.size i v xs := by
  have hvl : vs.length = xs.length := by simpa using congrArg List.length hv
  have hll : l.length = vs.length := by simpa using congrArg List.length hl
  have hmm : l.map (fun p => (p.1, a.eval p.2)) = vs.mapIdx fun i v => (0 + i, v) := by
    apply List.ext_getElem?
    intro t
    rw [List.getElem?_map, List.getElem?_mapIdx]
    rcases Nat.lt_or_ge t l.length with h | h
    · have h1 : l[t]? = some l[t] := List.getElem?_eq_getElem h
      have h2 := congrArg (·[t]?) hl
      have h3 := congrArg (·[t]?) hi
      simp only [List.getElem?_map, h1, Option.map_some, List.getElem?_eq_getElem (show t < vs.length by omega)] at h2
      rw [List.getElem?_map, h1, List.getElem?_range (by omega)] at h3
      simp only [Option.map_some, Option.some.injEq] at h2 h3
      rw [h1, List.getElem?_eq_getElem (show t < vs.length by omega)]
      simp only [Option.map_some, Nat.zero_add]
      rw [hf.ev h2, h3]
    · rw [List.getElem?_eq_none h, List.getElem?_eq_none (by omega)]
      rfl
  have hr := run_buildSlice (P := P) (vs := vs.mapIdx fun i v => (0 + i, v)) (len := xs.length) (res := xs.flatMap d.enc) hT he hlen (fun c hc => by
    have := fill_all (sz := d.n) [] (by simp) (xs.map d.enc) vs 0 [] c.toList (by simp only [List.mem_map]; rintro _ ⟨x, _, rfl⟩; exact d.len x) hv (by simp) (by simpa using hc) (by simp)
    simpa [List.flatMap_def] using this) w
  have hb : Below w.heap.size w (w.alloc (.cells (xs.flatMap d.enc).toArray e)) := (Below.refl _ _).alloc (Nat.le_refl _) _
  refine ⟨.slice (some ⟨w.heap.size, 0, none⟩) xs.length xs.length, w.alloc (.cells (xs.flatMap d.enc).toArray e), ?_, ownr ρ w i, hw.new i hb, Ext.new i hb, lit_ow (d := kf d) (okp := fun _ => False) i hw (reps_flat d xs (fun _ => rfl)) (by omega) (fun _ h => h.elim) (fun k hk => own_new hk)⟩
  simp only [execOp, List.map_toArray, hmm]
  simp only [Nat.zero_add] at hr ⊢
  simp [hr]
/-- a literal of one slice, the call's own (j's): it goes into the row -/
theorem r_lit_row {d : Kd α} {bytes : Nat} {z : Value} {o1 : Operand} (i : Nat) (hT : P.underlying T = some (.slice e)) {e' : Nat} (he : El P e 1 bytes z) (hw : Wd w0 ρ w) (hj : j ≠ 0) (hf : Fr n a L) (hx : ev L o1 = some u) (hu : Ow d e' ρ w w0.heap.size j u xs) :
    ∃ v w', (execOp a.eval ⟨dd, .buildSlice T 1 #[(0, o1)], ty, pos, af, gd⟩).run P w = .ok (.value v) w' ∧ ∃ ρ', Wd w0 ρ' w' ∧ (∀ b, b ≠ j → Tr b ρ w ρ' w') ∧ Below w.heap.size w w' ∧ Ow (Kd.slice e' d) e ρ' w' w0.heap.size i v [xs] := by
  obtain ⟨A, c, hue⟩ := Kd.R_slice hu
  have hc : u.cells = #[u] := by rw [hue]; rfl
  have hr := run_buildSlice (P := P) (vs := [(0, u)]) (len := 1) (sz := 1) (res := [u]) hT he (by omega) (fun c hc' => by
    have := fill_all (sz := 1) [] (by simp) [[u]] [u] 0 [] c.toList (by simp) (by simp [hc]) (by simp) (by simpa using hc') (by simp)
    simpa using this) w
  have hb : Below w.heap.size w (w.alloc (.cells [u].toArray e)) := (Below.refl _ _).alloc (Nat.le_refl _) _
  let ρ1 : Nat → Nat := fun k => if k < w.heap.size then (if ρ k = j then i else ρ k) else i
  refine ⟨.slice (some ⟨w.heap.size, 0, none⟩) 1 1, w.alloc (.cells [u].toArray e), by simp [execOp, hf.ev hx, hr], ρ1, ⟨hw.below.trans (hb.mono hw.below.size), fun k hk => ?_⟩, fun b hbj k hk hρ => ⟨by simp [ρ1, hk, hρ, hbj], hb.block k hk⟩, hb, ?_⟩
  · rcases Nat.lt_or_ge k w.heap.size with h | h
    · refine hw.own k (fun h0 => hk ?_)
      simp [ρ1, h, h0, Ne.symm hj]
    · exact Nat.le_trans hw.below.size h
  · refine lit_ow (d := Kd.slice e' d) (xs := [xs]) (inner := [u]) (okp := fun k => ρ k = j) i hw ?_ (by simp) (fun k h1 h2 => by simp [ρ1, h1, h2]) (fun k hk => by simp [ρ1]; omega)
    refine ⟨by simp [Kd.slice], fun t q ht => ?_⟩
    cases t with
    | zero =>
      have : xs = q := by simpa using ht
      subst this
      exact ⟨u, by simp [Kd.slice], hu⟩
    | succ t => simp at ht
end Go.Proofs.YtB

/- Words of this seat's own: cuts of slices, stores into elements of one's own slices, equality of arrays and structs. -/
set_option linter.unusedVariables false
set_option linter.unusedSimpArgs false
set_option linter.unusedSectionVars false
namespace Go.Proofs.YtB
open Go Go.RowKit
open Go.Proofs.YtbhaeajdabgnhaaW.PrintWords
variable {P : Program} {n : Nat} {a : Act} {L : List (Nat × Value)} {w w' w0 : World} {Q : Exit → Act → World → Prop} {ops : Array Oper} {rest : List Oper} {o : Oper}
variable {x y : Operand} {p q : Int} {T T' ty : TypeId} {pos : String} {af : Array Edge} {gd : Option (Nat × Bool)} {dd : Option Tmp} {ad : Addr} {k : Nat} {cs : List Value} {m : Nat}
variable {ρ ρ' : Nat → Nat} {i j g e B : Nat} {α β : Type} {d : Kd α} {xs ys : List α} {v u : Value}
theorem setCells_drawn (g : Nat) : ∀ (vs : List Value) (o : Nat) (w : World), (w.setCells g o vs).drawn = w.drawn
  | [], _, _ => rfl
  | v :: r, o, w => setCells_drawn g r (o + 1) (w.setCell ⟨g, o, none⟩ v)
theorem cut_run {sz lo hi : Nat} {A : Option Addr} {c : Nat} {ql qh : Option Value} (hT : P.underlying T = some (.slice e)) (hs : (P.info? e).map (·.size) = some sz)
    (hl : (ql = none ∧ lo = 0) ∨ (ql = some (.int .i64 (lo : Int)))) (hh : (qh = none ∧ hi = m) ∨ (qh = some (.int .i64 (hi : Int)))) (h1 : lo ≤ hi) (h2 : hi ≤ m) (h3 : m ≤ c) (w : World) :
    (Instr.sliceAt T (.slice A m c) ql qh none).run P w = .ok (.slice (if c = lo then A else A.map (·.add (lo * sz))) (hi - lo) (c - lo)) w := by
  have hel : P.elem T = e := by simp [Program.elem, hT]
  have hu : P.underlying T = some (.slice (P.elem T)) := by rw [hel]; exact hT
  obtain ⟨i0, h4, h5⟩ := Option.map_eq_some_iff.1 hs
  rw [run_sliceAt_slice w T _ _ _ _ hu]
  rcases hl with ⟨rfl, rfl⟩ | rfl <;> rcases hh with ⟨rfl, rfl⟩ | rfl
  · simp only [Instr.slice, Sem.run_bind, run_underlying hT, Result.andThen_ok]
    have ha : (A.map fun x => x.add 0) = A := by cases A <;> simp [Addr.add]
    simp [Instr.sliceBounds, sizeOf, typeInfo, h4, h5, ha]
  · have ha : (A.map fun x => x.add 0) = A := by cases A <;> simp [Addr.add]
    rw [run_slice_h w T A m c hu .i64 (hi : Int) (by omega) (by omega), hel]
    simp [sizeOf, typeInfo, h4, h5, sliced, Result.andThen, ha]
  · rw [run_slice_l w T A _ c hu .i64 (lo : Int) (by omega) (by omega), hel]
    simp [sizeOf, typeInfo, h4, h5, sliced, Result.andThen]
  · rw [run_slice_lh w T A m c hu .i64 .i64 (lo : Int) (hi : Int) (by omega) (by omega) (by omega), hel]
    simp [sizeOf, typeInfo, h4, h5, sliced, Result.andThen]
theorem ro_cut {A : Option Addr} {c lo hi : Nat} (hv : Ro d w (.slice A xs.length c) xs) (h1 : lo ≤ hi) (h2 : hi ≤ xs.length) : Ro d w (.slice (if c = lo then A else A.map (·.add (lo * d.sz))) (hi - lo) (c - lo)) ((xs.take hi).drop lo) := by
  obtain ⟨A', c', he, hc, hC⟩ := hv
  injection he with e1 e2 e3
  subst e1; subst e3
  have hl : ((xs.take hi).drop lo).length = hi - lo := by simp; omega
  refine ⟨_, c - lo, by rw [hl], by rw [hl]; omega, Kd.C_mid hC h1 h2 hc⟩
/-- out[i] = u, out[i].f = u, out[i].f[j] = u: a store into a part of an element -/
theorem r_store_el {d : Fl α} {d' : Fl β} {off : Nat} {gt : α → β} {s : α → β → α} {b : β} {c : Nat} {ag : Bool} (z : α) (hw : Wd w0 ρ w) (hi : i ≠ 0) (hv : Ow (kf d) e ρ w w0.heap.size i v xs) (h0 : 0 ≤ p) (h1 : p < xs.length) (hl : Lens d d' off gt s) (hve : v = .slice (some ad) xs.length c) (hT : Ty P T d'.n ag)
    (hf : Fr n a L) (hx : ev L x = some (.pointer (some (ad.add (p.toNat * d.n + off))))) (hy : ev L y = some u) (hu : u.cells.toList = d'.enc b) :
    ∃ w', (execOp a.eval ⟨dd, .store T x y, ty, pos, af, gd⟩).run P w = .ok .skip w' ∧ Wd w0 ρ w' ∧ Adv i ρ w ρ w' ∧ Ow (kf d) e ρ w' w0.heap.size i v (xs.set p.toNat (s (gl z xs p) b)) := by
  subst hve
  obtain ⟨g, cap, he, hb, hlt, cells, hcells⟩ := Kd.R_form hv (by omega)
  injection he with e1 _ e3
  injection e1 with e1
  subst e1; subst e3
  obtain ⟨ad', c', hve', hcl⟩ := Ro.el d hv.ro z h0 h1
  injection hve' with e1 _ _
  injection e1 with e1
  subst e1
  have hfit := hl.fit
  have hseg := Kd.R_seg (x' := s (gl z xs p) b) (okp := fun _ => False) hv p h0 h1 (c := d.enc (gl z xs p)) (seg := d'.enc b) (j := off) (d.len _) (fun j u hj => by have := hcl j u hj; rwa [add_plain] at this) (by rw [d'.len]; exact hfit)
    (by show _ = d.enc _; rw [d'.len]; exact hl.set _ _) (fun _ h => h.elim)
  obtain ⟨hrow, hg⟩ := hseg
  have hown : ρ g = i := hv.1 g (by simp [Value.ownBlock])
  refine ⟨_, ?_, ⟨hw.below.grown hg hw.below.size (fun k hk => ?_) (Nat.le_of_eq (setCells_drawn _ _ _ _).symm), hw.own⟩, ⟨hg.size, fun _ _ => rfl, fun k h hne => hg.block k h (fun he => ?_)⟩, hrow⟩
  · have hfitw : p.toNat * d.n + off + (d'.enc b).length ≤ cells.size := by
      obtain ⟨inner, ho⟩ := Kd.R_own hv
      rcases ho.2 with ⟨hv', _⟩ | ⟨g', cap', cur, hv', _, hh, hnc, _, hcs, _⟩
      · cases hv'
      · injection hv' with ha _ hc
        injection ha with ha
        injection ha with hg'
        subst hg'
        rw [hh] at hcells
        injection hcells with hcells
        injection hcells with hcells
        subst hcells
        rw [hcs, d'.len]
        have h5 : p.toNat * d.n + d.n ≤ xs.length * d.n := by rw [← Nat.succ_mul]; exact Nat.mul_le_mul_right _ (by omega)
        have h6 : xs.length * d.n ≤ cap' * d.n := Nat.mul_le_mul_right _ hnc
        show _ ≤ cap' * d.n
        omega
    have hT2 : (P.info? T).map (·.size) = some (d'.enc b).length := by
      obtain ⟨i1, h7, h8⟩ := hT.s
      rw [h7, d'.len, ← h8]; rfl
    have hr := run_store_run T u (d'.enc b) hcells hu hT2 hfitw (d'.one b)
    simp only [execOp, hf.ev hx, hf.ev hy, add_plain]
    show ((Instr.storeAt T _ u >>= fun _ => pure Next.skip).run P w) = _
    rw [Sem.run_bind, hr]
    rfl
  · injection hk with hk
    subst hk
    exact hw.own g (by rw [hown]; exact hi)
  · injection he with he
    subst he
    exact hne hown

end Go.Proofs.YtB

/- Words of this seat's own: a region whose order is open: each of its first operations by what it answers, whatever ran before it; the rest in order. -/
set_option linter.unusedVariables false
set_option linter.unusedSimpArgs false
set_option linter.unusedSectionVars false
namespace Go.Proofs.YtB
open Go Go.RowKit
variable {P : Program} {n : Nat} {a : Act} {L : List (Nat × Value)} {w w' w0 : World} {Q : Exit → Act → World → Prop} {ops : Array Oper} {rest : List Oper} {o : Oper}
variable {ρ ρ' : Nat → Nat}
def drawB (l : List Oper) (h : Nat) : Bool :=
  ((List.range h).all fun i => match l[i]? with
    | some o => o.after.all fun e => !Region.binds .any e || decide (e.on < i)
    | none => false) &&
  (decide (h = l.length) || (decide (h < l.length) && Region.sinkB .any l.toArray h && Region.chainB .any l.toArray h && Region.seqB .any l.toArray (l.length - h) h (Array.replicate h true ++ Array.replicate (l.length - h) false)))
def undone (listed : Array Bool) (h : Nat) : Nat := ((List.range h).filter fun i => !listed.getD i false).length
theorem undone_set {listed : Array Bool} {h i : Nat} (hi : i < h) (hs : i < listed.size) (hl : listed.getD i false = false) : undone (listed.setIfInBounds i true) h + 1 = undone listed h := by
  unfold undone
  induction h with
  | zero => omega
  | succ h ih =>
    rw [List.range_succ, List.filter_append, List.filter_append, List.length_append, List.length_append]
    by_cases hih : i = h
    · subst hih
      have e1 : ((List.range i).filter fun j => !(listed.setIfInBounds i true).getD j false) = (List.range i).filter fun j => !listed.getD j false := by
        apply List.filter_congr
        intro j hj
        have := List.mem_range.1 hj
        rw [getD_set_ne false (by omega)]
      rw [e1]
      have e2 : (listed.setIfInBounds i true).getD i false = true := by simp [hs]
      simp only [List.filter_cons, e2, hl, List.filter_nil]
      simp
    · have := ih (by omega)
      rw [← this]
      have e3 : (listed.setIfInBounds i true).getD h false = listed.getD h false := getD_set_ne false hih
      simp only [List.filter_cons, e3, List.filter_nil]
      omega
theorem undone_zero {listed : Array Bool} {h : Nat} (h0 : undone listed h = 0) : ∀ i, i < h → listed.getD i false = true := by
  intro i hi
  have h1 := List.length_eq_zero_iff.1 h0
  have h2 := List.filter_eq_nil_iff.1 h1 i (List.mem_range.2 hi)
  simpa using h2
theorem undone_pos {listed : Array Bool} {h d : Nat} (h0 : undone listed h = d + 1) : ∃ i, i < h ∧ listed.getD i false = false ∧ ∀ j, j < i → listed.getD j false = true := by
  have hex : ∃ i, i < h ∧ listed.getD i false = false := by
    rcases Nat.eq_zero_or_pos ((List.range h).filter fun i => !listed.getD i false).length with h1 | h1
    · unfold undone at h0; omega
    · obtain ⟨i, hi⟩ := List.exists_mem_of_length_pos h1
      rw [List.mem_filter] at hi
      exact ⟨i, List.mem_range.1 hi.1, by simpa using hi.2⟩
  obtain ⟨i, hi, hl⟩ := hex
  induction i using Nat.strongRecOn with
  | _ i ih =>
    by_cases hall : ∀ j, j < i → listed.getD j false = true
    · exact ⟨i, hi, hl, hall⟩
    · simp only [Classical.not_forall] at hall
      obtain ⟨j, hj, hnj⟩ := hall
      exact ih j hj (by omega) (by simpa using hnj)

/-- 'j waits for i' -/
def depB (o : Oper) (j : Nat) : Bool := o.after.any fun e => Region.binds .any e && e.on == j
theorem c_any {id h : Nat} {l : List Oper} (hm : P.follows .mixedOrders = true) (hB : drawB l h = true) (I : (Nat → Prop) → Act → World → Prop)
    (hI : ∀ S S' a w, (∀ j, j < h → (S j ↔ S' j)) → I S a w → I S' a w)
    (h0 : I (fun _ => False) a { w with drawn := w.drawn + 1 })
    (step : ∀ S a w i o, i < h → l[i]? = some o → ¬ S i → (∀ j, depB o j = true → S j) → I S a w → wpOp P l.toArray Q i (fun a' w' => I (fun j => j = i ∨ S j) a' w') a w)
    (tail : ∀ a w, I (fun _ => True) a w → wpList P l.toArray Q (l.drop h) a w) : (Code.region id l.toArray true).wp P Q a w := by
  simp only [drawB, Bool.and_eq_true, Bool.or_eq_true, decide_eq_true_eq] at hB
  obtain ⟨hback, hB⟩ := hB
  have hle : h ≤ l.length := by omega
  refine wp_region_any hm ?_
  have key : ∀ d listed a w, undone listed h = d → HeadInv .any l.toArray h listed → I (fun j => listed.getD j false = true) a w → wpAny P .any l.toArray Q (d + (l.length - h)) listed a w := by
    intro d
    induction d with
    | zero =>
      intro listed a w hd inv hIa
      have hall := undone_zero hd
      have ht := tail a w (hI _ _ a w (fun j hj => ⟨fun _ => trivial, fun _ => hall j hj⟩) hIa)
      have hlisted : listed = Array.replicate h true ++ Array.replicate (l.length - h) false := by
        apply Array.ext
        · simp [inv.size]; omega
        · intro i h1 h2
          rw [inv.size] at h1
          by_cases hih : i < h
          · have := hall i hih
            simp [inv.size, h1] at this
            have h3 : i < l.length := by simpa using h1
            rw [Array.getElem_append_left (by simpa using hih)]
            simp only [Array.getElem_replicate]
            simpa [inv.size, h3] using this
          · have := inv.tail i (by omega) h1
            have h3 : i < l.length := by simpa using h1
            rw [Array.getElem_append_right (by simpa using Nat.le_of_not_lt hih)]
            simp only [Array.getElem_replicate]
            simpa [inv.size, h3] using this
      rcases hB with hB | hB
      · have hd0 : l.drop h = [] := by rw [List.drop_eq_nil_of_le (by omega)]
        rw [hd0] at ht
        have hnil : Region.ready .any l.toArray listed = [] := by
          apply List.eq_nil_iff_forall_not_mem.2
          intro i hi
          obtain ⟨h1, oi, hoi, _⟩ := mem_ready.1 hi
          have hlt : i < l.length := by
            have := (Array.getElem?_eq_some_iff.1 hoi).1
            simpa using this
          have h2 := hall i (by omega)
          rw [getD_both h1] at h2
          cases h2
        rw [show 0 + (l.length - h) = 0 by omega]
        exact ⟨hnil, ht⟩
      · have hseq := hB.2
        rw [← hlisted] at hseq
        have := wpAny_of_seq (P := P) (md := .any) (ops := l.toArray) (Q' := Q) (l.drop h) h listed a w (fun j => by simp) (by rw [List.length_drop]; exact hseq) ht
        rw [List.length_drop] at this
        rwa [Nat.zero_add]
    | succ d ih =>
      intro listed a w hd inv hIa
      obtain ⟨i0, hi0, hl0, hmin⟩ := undone_pos hd
      have hsz : listed.size = l.length := by rw [inv.size]; simp
      have hr0 : i0 ∈ Region.ready .any l.toArray listed := by
        have hb := List.all_eq_true.1 hback i0 (List.mem_range.2 hi0)
        cases ho : l[i0]? with
        | none => rw [ho] at hb; cases hb
        | some oi =>
          rw [ho] at hb
          refine mem_ready.2 ⟨getD_in (by omega) hl0, oi, by simpa using ho, fun e he hbd => hmin e.on ?_⟩
          have := Array.all_eq_true'.1 hb e he
          simpa [hbd] using this
      have hhd : ∀ i ∈ Region.ready .any l.toArray listed, i < h := by
        intro i hi
        rcases Nat.lt_or_ge i h with h1 | h1
        · exact h1
        · exfalso
          have hlt : i < l.toArray.size := by
            obtain ⟨_, oi, hoi, _⟩ := mem_ready.1 hi
            exact (Array.getElem?_eq_some_iff.1 hoi).1
          rcases hB with hB | hB
          · simp at hlt; omega
          · exact tail_waits (md := .any) (ops := l.toArray) hB.1.1.2 hB.1.2 (by simpa using hB.1.1.1) inv (h - i0) i0 rfl hi0 (getD_in (by omega) hl0) i h1 hi
      rw [show d + 1 + (l.length - h) = (d + (l.length - h)) + 1 by omega]
      refine ⟨fun h1 => (by rw [h1] at hr0; cases hr0), fun i hi => ?_⟩
      have hih := hhd i hi
      obtain ⟨hli, oi, hoi, hdeps⟩ := mem_ready.1 hi
      have hoi' : l[i]? = some oi := by simpa using hoi
      have hs := step (fun j => listed.getD j false = true) a w i oi hih hoi' (by rw [getD_both hli]; simp) (fun j hj => by
        obtain ⟨e, he, hb⟩ := Array.any_eq_true'.1 hj
        simp only [Bool.and_eq_true, beq_iff_eq] at hb
        rw [← hb.2]
        exact hdeps e he hb.1) hIa
      refine wpOp_mono (fun a' w' hI' => ?_) hs
      have hiz : i < listed.size := by omega
      refine ih _ a' w' (by have := undone_set hih hiz (getD_both hli); omega) (inv.set hi hih) (hI _ _ a' w' (fun j _ => ?_) hI')
      by_cases hji : j = i
      · subst hji
        simp [hiz]
      · rw [getD_set_ne false (Ne.symm hji)]
        simp [hji]
  have hu : undone (Array.replicate l.toArray.size false) h = h := by
    unfold undone
    rw [List.filter_eq_self.2 (fun i _ => by rw [getD_replicate_false]; rfl)]
    simp
  have := key h (Array.replicate l.toArray.size false) a _ hu ⟨by simp, fun j oj _ hl => (by rw [getD_replicate_false] at hl; cases hl), fun t _ ht => getD_in (by simpa using ht) (getD_replicate_false _ _)⟩ (hI _ _ _ _ (fun j _ => by rw [getD_replicate_false]; simp) h0)
  rw [show h + (l.length - h) = l.toArray.size by simp; omega] at this
  exact this

/-- a fact on an answer that lasts -/
def Lasts (R : (Nat → Nat) → World → Value → Prop) : Prop := ∀ ρ w ρ' w' v, Ext ρ w ρ' w' → R ρ w v → R ρ' w' v
theorem Fr.more (hf : Fr n a L) {t : Nat} {v : Value} (h : a.tmps[t]? = some v) : Fr n a ((t, v) :: L) := by
  refine ⟨hf.d, hf.s, fun t' v' h' => ?_⟩
  simp only [look] at h'
  cases hb : Nat.beq t t' with
  | true =>
    rw [hb] at h'
    injection h' with h'
    subst h'
    rw [← Nat.eq_of_beq_eq_true hb]
    exact h
  | false =>
    rw [hb] at h'
    exact hf.l t' v' h'
/-- the temporaries that the first operations write: none twice, none that is told in L -/
def dstOf (l : List Oper) (j : Nat) : Nat := ((l[j]?).bind (·.dst)).getD 0
def dstB (l : List Oper) (h n : Nat) (ks : List Nat) : Bool :=
  (List.range h).all fun i => (match l[i]? with
    | some o => o.dst.isSome
    | none => false) && decide (dstOf l i < n) && !ks.contains (dstOf l i) && (List.range i).all fun j => dstOf l j != dstOf l i
theorem c_draw {id h : Nat} {l : List Oper} (hm : P.follows .mixedOrders = true) (hB : drawB l h = true) (hD : dstB l h n (L.map (·.1)) = true) (Γ : (Nat → Nat) → World → Prop) (hΓ : ∀ ρ w ρ' w', Ext ρ w ρ' w' → Γ ρ w → Γ ρ' w')
    (R : Nat → (Nat → Nat) → World → Value → Prop) (hR : ∀ j, j < h → Lasts (R j)) (hw : Wd w0 ρ w) (hG : Γ ρ w) (hf : Fr n a L)
    (step : ∀ i o ρ w a, i < h → l[i]? = some o → Wd w0 ρ w → Γ ρ w → Fr n a L → (∀ j, depB o j = true → ∃ v, a.tmps[dstOf l j]? = some v ∧ R j ρ w v) →
      ∀ K : Act → World → Prop, (∀ a' v ρ' w', Wd w0 ρ' w' → Ext ρ w ρ' w' → R i ρ' w' v → a' = a.put (some (dstOf l i)) v → K a' w') → if Region.wanted o (yielded l.toArray a.tmps) = true then o.wp P a w K Q else K (a.put o.dst undef) w)
    (tail : ∀ ρ w a, Wd w0 ρ w → Γ ρ w → Fr n a L → (∀ j, j < h → ∃ v, a.tmps[dstOf l j]? = some v ∧ R j ρ w v) → wpList P l.toArray Q (l.drop h) a w) : (Code.region id l.toArray true).wp P Q a w := by
  have hDi : ∀ i, i < h → ∃ o, l[i]? = some o ∧ o.dst = some (dstOf l i) ∧ dstOf l i < n ∧ ¬ dstOf l i ∈ L.map (·.1) ∧ ∀ j, j < i → dstOf l j ≠ dstOf l i := by
    intro i hi
    have h1 := List.all_eq_true.1 hD i (List.mem_range.2 hi)
    simp only [Bool.and_eq_true, decide_eq_true_eq, Bool.not_eq_true', List.contains_eq_mem, decide_eq_false_iff_not] at h1
    obtain ⟨⟨⟨h2, h3⟩, h4⟩, h5⟩ := h1
    cases ho : l[i]? with
    | none => rw [ho] at h2; cases h2
    | some o =>
      rw [ho] at h2
      obtain ⟨d, hd⟩ := Option.isSome_iff_exists.1 h2
      refine ⟨o, rfl, ?_, h3, h4, fun j hj => ?_⟩
      · simp [dstOf, ho, hd]
      · have := List.all_eq_true.1 h5 j (List.mem_range.2 hj)
        simpa using this
  have hne : ∀ i j, i < h → j < h → i ≠ j → dstOf l i ≠ dstOf l j := by
    intro i j hi hj hij
    rcases Nat.lt_or_gt_of_ne hij with h1 | h1
    · obtain ⟨_, _, _, _, _, h2⟩ := hDi j hj
      exact h2 i h1
    · obtain ⟨_, _, _, _, _, h2⟩ := hDi i hi
      exact fun he => h2 j h1 he.symm
  have hlk : ∀ (L : List (Nat × Value)) t v, look L t = some v → t ∈ L.map (·.1) := by
    intro L
    induction L with
    | nil => intro t v h; cases h
    | cons p r ih =>
      intro t v h
      obtain ⟨k, u⟩ := p
      simp only [look] at h
      cases hb : Nat.beq k t with
      | true =>
        have := Nat.eq_of_beq_eq_true hb
        simp [this]
      | false =>
        rw [hb] at h
        have := ih t v h
        simp only [List.map_cons, List.mem_cons]
        exact .inr this
  refine c_any (h := h) hm hB (fun S a w => ∃ ρ, Wd w0 ρ w ∧ Γ ρ w ∧ Fr n a L ∧ ∀ j, j < h → S j → ∃ v, a.tmps[dstOf l j]? = some v ∧ R j ρ w v) ?_ ?_ ?_ ?_
  · rintro S S' a w hS ⟨ρ, h1, h2, h3, h4⟩
    exact ⟨ρ, h1, h2, h3, fun j hj hj' => h4 j hj ((hS j hj).2 hj')⟩
  · have hE : Ext ρ w ρ { w with drawn := w.drawn + 1 } := ⟨⟨rfl, rfl, rfl, Nat.le_refl _, fun _ _ => rfl, Nat.le_succ _⟩, fun _ _ => rfl⟩
    exact ⟨ρ, ⟨⟨hw.below.os, hw.below.tape, hw.below.output, hw.below.size, hw.below.block, Nat.le_succ_of_le hw.below.drawn⟩, hw.own⟩, hΓ _ _ _ _ hE hG, hf, fun _ _ h => h.elim⟩
  · rintro S a w i o hi ho hSi hdep ⟨ρ, h1, h2, h3, h4⟩
    obtain ⟨o', ho', hdst, hdn, hdl, _⟩ := hDi i hi
    rw [ho] at ho'
    injection ho' with ho'
    subst ho'
    have hback : ∀ j, depB o j = true → j < h := by
      intro j hj
      simp only [drawB, Bool.and_eq_true] at hB
      have hb := List.all_eq_true.1 hB.1 i (List.mem_range.2 hi)
      rw [ho] at hb
      obtain ⟨e, he, hbe⟩ := Array.any_eq_true'.1 hj
      simp only [Bool.and_eq_true, beq_iff_eq] at hbe
      have := Array.all_eq_true'.1 hb e he
      simp only [hbe.1, Bool.not_true, Bool.false_or, decide_eq_true_eq] at this
      omega
    have hs := step i o ρ w a hi ho h1 h2 h3 (fun j hj => h4 j (hback j hj) (hdep j hj))
      (fun a' w' => ∃ ρ, Wd w0 ρ w' ∧ Γ ρ w' ∧ Fr n a' L ∧ ∀ j, j < h → (j = i ∨ S j) → ∃ v, a'.tmps[dstOf l j]? = some v ∧ R j ρ w' v) (by
        rintro a' v ρ' w' h5 h6 h7 rfl
        have hput : ∀ t, t ≠ dstOf l i → (a.put (some (dstOf l i)) v).tmps[t]? = a.tmps[t]? := by
          intro t ht
          simp only [Act.put]
          rw [Array.getElem?_setIfInBounds_ne (Ne.symm ht)]
        refine ⟨ρ', h5, hΓ _ _ _ _ h6 h2, ⟨h3.d, by simp [Act.put, h3.s], fun t u hu => ?_⟩, fun j hj hS => ?_⟩
        · rw [hput t (fun he => hdl (by rw [← he]; exact hlk L t u hu))]
          exact h3.l t u hu
        · by_cases hji : j = i
          · subst hji
            exact ⟨v, by simp [Act.put, h3.s, hdn], h7⟩
          · obtain ⟨u, hu, hRu⟩ := h4 j hj (hS.resolve_left hji)
            exact ⟨u, by rw [hput _ (hne j i hj hi hji)]; exact hu, hR j hj _ _ _ _ _ h6 hRu⟩)
    unfold wpOp
    have : l.toArray[i]? = some o := by simpa using ho
    simp only [this]
    split
    · rename_i hw'
      rw [if_pos hw'] at hs
      exact .inl hs
    · rename_i hw'
      rw [if_neg hw'] at hs
      exact hs
  · rintro a w ⟨ρ, h1, h2, h3, h4⟩
    exact tail ρ w a h1 h2 h3 (fun j hj => h4 j hj trivial)
end Go.Proofs.YtB

/- Words of this seat's own: the forms in which printed walks use the others. -/
set_option linter.unusedVariables false
set_option linter.unusedSimpArgs false
set_option linter.unusedSectionVars false
namespace Go.Proofs.YtB
open Go Go.RowKit
open Go.Proofs.YtbhaeajdabgnhaaW.PrintWords
variable {P : Program} {n : Nat} {a : Act} {L : List (Nat × Value)} {w w' w0 : World} {Q : Exit → Act → World → Prop} {ops : Array Oper} {rest : List Oper} {o : Oper}
variable {x y : Operand} {p q : Int} {T T' ty : TypeId} {pos : String} {af : Array Edge} {gd : Option (Nat × Bool)} {dd : Option Tmp} {ad : Addr} {k : Nat} {cs : List Value} {m : Nat}
variable {ρ ρ' : Nat → Nat} {i j g e B : Nat} {α β : Type} {d : Kd α} {xs ys : List α} {v u : Value}
theorem c_nt {K : Act → World → Prop} (h : K a w) : wpList P ops (Exit.then K Q) [] a w := h
theorem c_nil (h : Q .normal a w) : wpList P ops Q [] a w := h
theorem n_then {K : Act → World → Prop} (h : K a w) : Exit.then K Q .normal a w := h
theorem n_block {id : Nat} (h : Q .normal a w) : Exit.inBlock id Q .normal a w := h
theorem x_then {K : Act → World → Prop} {id : Nat} (h : Q (.exit id) a w) : Exit.then K Q (.exit id) a w := h
theorem x_block {id : Nat} (h : Q .normal a w) : Exit.inBlock id Q (.exit id) a w := by simp [Exit.inBlock]; exact h
theorem r_then {K : Act → World → Prop} (h : Q .ret a w) : Exit.then K Q .ret a w := h
theorem r_block {id : Nat} (h : Q .ret a w) : Exit.inBlock id Q .ret a w := h
theorem c_exit {id : Nat} (h : Q (.exit id) a w) : (Code.exit id).wp P Q a w := wp_exit h
theorem c_skip (h : Q .normal a w) : Code.skip.wp P Q a w := wp_skip h
theorem c_retc (h : Q .ret a w) : Code.ret.wp P Q a w := wp_ret h
theorem c_block {id : Nat} {c : Code} (h : c.wp P (Exit.inBlock id Q) a w) : (Code.block id c).wp P Q a w := wp_block h
theorem c_true {c : Operand} {x y : Code} (hf : Fr n a L) (hc : ev L c = some (.bool true)) (h : x.wp P Q a w) : (Code.cond c x y).wp P Q a w := c_cond true hf hc h
theorem c_false {c : Operand} {x y : Code} (hf : Fr n a L) (hc : ev L c = some (.bool false)) (h : y.wp P Q a w) : (Code.cond c x y).wp P Q a w := c_cond false hf hc h
theorem c_ift {c : Operand} {x y : Code} {b : Bool} (hf : Fr n a L) (hc : ev L c = some (.bool b)) (hb : b = true) (h : x.wp P Q a w) : (Code.cond c x y).wp P Q a w := by
  subst hb
  exact c_true hf hc h
theorem c_iff {c : Operand} {x y : Code} {b : Bool} (hf : Fr n a L) (hc : ev L c = some (.bool b)) (hb : b = false) (h : y.wp P Q a w) : (Code.cond c x y).wp P Q a w := by
  subst hb
  exact c_false hf hc h
theorem Rnd.goes {σ ρ : Type} {id : Nat} {out : LR σ ρ} {I St : σ → Act → World → Prop} {s : σ} (h : I s a w) : Rnd id out I St Q (.next s) .normal a w := ⟨rfl, h⟩
theorem Rnd.stops {σ ρ : Type} {id : Nat} {out : LR σ ρ} {I St : σ → Act → World → Prop} {s : σ} (h : St s a w) : Rnd id out I St Q (.stop s) (.exit id) a w := ⟨rfl, h⟩
theorem Rnd.rets {σ ρ : Type} {id : Nat} {out : LR σ ρ} {I St : σ → Act → World → Prop} {r : ρ} (h : out = .ret r → Q .ret a w) : Rnd id out I St Q (.ret r) .ret a w := ⟨by simp, h⟩
/-- ways that meet: the answer of what lies before the meeting, or the call's -/
def Met {σ ρ : Type} (out : LR σ ρ) (J : σ → Act → World → Prop) (Q : Exit → Act → World → Prop) (e : Exit) (a : Act) (w : World) : Prop :=
  match out with
  | .stop s => e = .normal ∧ J s a w
  | .ret r => Q e a w
  | .next s => Q e a w
theorem Met.stops {σ ρ : Type} {J : σ → Act → World → Prop} {s : σ} (h : J s a w) : Met (.stop s : LR σ ρ) J Q .normal a w := ⟨rfl, h⟩
theorem c_meet {σ : Type} {c : Code} (J : σ → Act → World → Prop) (s : σ) (h : c.wp P (fun e a w => e = .normal ∧ J s a w) a w) (hJ : ∀ a w, J s a w → Q .normal a w) : c.wp P Q a w :=
  Code.wp_mono (fun e a w h => by obtain ⟨rfl, h⟩ := h; exact hJ a w h) h
theorem c_start {c : Code} (h : ∀ w ρ, Wd w0 ρ w → c.wp P Q a w) : c.wp P Q a w0 := h w0 _ (Wd.start w0)

def evs (L : List (Nat × Value)) : List Operand → Option (List Value)
  | [] => some []
  | x :: r => match ev L x, evs L r with
    | some v, some vs => some (v :: vs)
    | _, _ => none
theorem evs_map : ∀ {l : List Operand} {vs : List Value}, evs L l = some vs → l.map (ev L) = vs.map some
  | [], vs, h => by
    injection h with h
    subst h
    rfl
  | x :: r, vs, h => by
    simp only [evs] at h
    split at h
    · rename_i u us h1 h2
      injection h with h
      subst h
      rw [List.map_cons, h1, evs_map h2]
      rfl
    · cases h
/-- function f is one with a body -/
structure En (P : Program) (f : FuncId) : Prop where
  h : ∃ fn, P.funcs[f]? = some fn ∧ (fn.name == "runtime.NumGoroutine") = false ∧ fn.body.isNone = false
theorem r_fn {f : FuncId} {ats : Array TypeId} {l : List Operand} {vs : List Value} (he : En P f) (hf : Fr n a L) (hx : evs L l = some vs) :
    (execOp a.eval ⟨dd, .call ⟨.value (.func f), l.toArray, ats⟩, ty, pos, af, gd⟩).run P w = .ok (.enter f vs.toArray) w := by
  obtain ⟨fn, h1, h2, h3⟩ := he.h
  exact r_call h1 h2 h3 hf (evs_map hx)

structure FA (P : Program) (S i off : Nat) : Prop where
  h : ∃ fs f m, P.underlying S = some (.struct fs) ∧ fs[i]? = some f ∧ f.offset = off ∧ (P.info? f.type).map (·.size) = some m ∧ m ≠ 0
theorem r_fa {S i off : Nat} (h : FA P S i off) (hf : Fr n a L) (hx : ev L x = some (.pointer (some (ad.add k)))) :
    (execOp a.eval ⟨dd, .fieldAddr S x i, ty, pos, af, gd⟩).run P w = .ok (.value (.pointer (some (ad.add (k + off))))) w := by
  obtain ⟨fs, f, m, h1, h2, h3, h4, h5⟩ := h.h
  obtain ⟨j, h6, h7⟩ := Option.map_eq_some_iff.1 h4
  exact r_fieldAddr h1 h2 h3 ⟨j, h6, by omega⟩ hf hx
/-- a cell of a variable whose cells are told one by one -/
theorem r_store_c {t : TypeId} {ag : Bool} (hw : Wd w0 ρ w) (hv : Va ρ w i g t cs) (hi : i ≠ 0) (hT : Ty P T 1 ag) (hk : k < cs.length) (hf : Fr n a L) (hx : ev L x = some (.pointer (some ((⟨g, 0, none⟩ : Addr).add k)))) (hy : ev L y = some v) (hs : v.cells.toList = [v]) (h1 : v.oneCell' = true) :
    ∃ w', (execOp a.eval ⟨dd, .store T x y, ty, pos, af, gd⟩).run P w = .ok .skip w' ∧ Wd w0 ρ w' ∧ Adv i ρ w ρ w' ∧ Va ρ w' i g t (cs.set k v) := by
  obtain ⟨w', h1, h2, h3, h4⟩ := r_store (k := k) (m := 1) hw hv hi hT hf hx hy hs rfl (by omega) (by intro u hu; rw [List.mem_singleton.1 hu]; exact h1)
  refine ⟨w', h1, h2, h3, ?_⟩
  have e : cs.take k ++ [v] ++ cs.drop (k + 1) = cs.set k v := by
    rw [List.set_eq_take_append_cons_drop, if_pos hk]
    simp
  rwa [e] at h4
/-- the whole of a variable -/
theorem r_store_w {t : TypeId} {ag : Bool} {cs' : List Value} (hw : Wd w0 ρ w) (hv : Va ρ w i g t cs) (hi : i ≠ 0) (hT : Ty P T m ag) (hl : cs.length = m) (hl' : cs'.length = m) (h1 : ∀ u ∈ cs', u.oneCell' = true) (hf : Fr n a L) (hx : ev L x = some (.pointer (some ((⟨g, 0, none⟩ : Addr).add 0)))) (hy : ev L y = some v) (hs : v.cells.toList = cs') :
    ∃ w', (execOp a.eval ⟨dd, .store T x y, ty, pos, af, gd⟩).run P w = .ok .skip w' ∧ Wd w0 ρ w' ∧ Adv i ρ w ρ w' ∧ Va ρ w' i g t cs' := by
  obtain ⟨w', h1, h2, h3, h4⟩ := r_store (k := 0) (m := m) hw hv hi hT hf hx hy hs hl' (by omega) h1
  refine ⟨w', h1, h2, h3, ?_⟩
  have e : cs.take 0 ++ cs' ++ cs.drop (0 + m) = cs' := by simp [← hl]
  rwa [e] at h4

theorem Ro.shape (h : Ro d w v xs) : ∃ A m c, v = .slice A m c := by
  obtain ⟨A, c, h, _⟩ := h
  exact ⟨A, _, c, h⟩
theorem Ro.one (h : Ro d w v xs) : v.oneCell' = true := by
  obtain ⟨A, m, c, rfl⟩ := h.shape
  rfl
theorem Ro.cells1 (h : Ro d w v xs) : v.cells.toList = [v] := by
  obtain ⟨A, m, c, rfl⟩ := h.shape
  rfl
theorem one_one (h : v.oneCell' = true) : ∀ u ∈ [v], u.oneCell' = true := by
  intro u hu
  rw [List.mem_singleton.1 hu]
  exact h
theorem mk_le {b : Nat} {N : Nat} (h0 : 0 ≤ p) (h : p * (b : Int) ≤ (N : Int)) : p.toNat * b ≤ N := by
  obtain ⟨m, rfl⟩ := Int.eq_ofNat_of_zero_le h0
  simp only [Int.toNat_natCast]
  have : ((m * b : Nat) : Int) ≤ N := by rwa [Int.natCast_mul]
  omega
theorem st_fn {dt : Nat} {f : FuncId} {args : Array Value} {Φ : Value → World → Prop} (i : Nat) (hw : Wd w0 ρ w) (hf : Fr n a L) (hg : o.guard = none) (hd : o.dst = some dt) (hn : dt < n) (hr : (execOp a.eval o).run P w = .ok (.enter f args) w)
    (hc : Calls P f args w fun e w' => ∃ v, e = .returned v ∧ Below w.heap.size w w' ∧ Φ v w')
    (h : ∀ a' v w' ρ', Fr n a' ((dt, v) :: L) → Wd w0 ρ' w' → Ext ρ w ρ' w' → (∀ {α : Type} {d : Kd α} {e : Nat} {u : Value} {xs : List α}, Fresh d e w w' u xs → Ow d e ρ' w' w0.heap.size i u xs) → Φ v w' → wpList P ops Q rest a' w') : wpList P ops Q (o :: rest) a w :=
  st_call hf hg hd hn hr hc fun a' v w' hf' hΦ => h a' v w' (ownr ρ w i) hf' (hw.new i hΦ.1) (Ext.new i hΦ.1) (fun hF => hF.own hw.below.size i) hΦ.2
theorem st_gfn {j dj dt : Nat} {b b' : Bool} {f : FuncId} {args : Array Value} {Φ : Value → World → Prop} (i : Nat) (hw : Wd w0 ρ w) (hf : Fr n a L) (hg : o.guard = some (j, b)) (hj : (ops[j]?).bind (·.dst) = some dj) (hd : look L dj = some (.bool b')) (hb : b' = b) (ht : o.dst = some dt) (hn : dt < n) (hr : (execOp a.eval o).run P w = .ok (.enter f args) w)
    (hc : Calls P f args w fun e w' => ∃ v, e = .returned v ∧ Below w.heap.size w w' ∧ Φ v w')
    (h : ∀ a' v w' ρ', Fr n a' ((dt, v) :: L) → Wd w0 ρ' w' → Ext ρ w ρ' w' → (∀ {α : Type} {d : Kd α} {e : Nat} {u : Value} {xs : List α}, Fresh d e w w' u xs → Ow d e ρ' w' w0.heap.size i u xs) → Φ v w' → wpList P ops Q rest a' w') : wpList P ops Q (o :: rest) a w :=
  st_gcall hf hg hj hd hb ht hn hr hc fun a' v w' hf' hΦ => h a' v w' (ownr ρ w i) hf' (hw.new i hΦ.1) (Ext.new i hΦ.1) (fun hF => hF.own hw.below.size i) hΦ.2
/-- guarded by what was passed over itself -/
theorem st_nu {j dj t : Nat} {b : Bool} (hf : Fr n a L) (hg : o.guard = some (j, b)) (hj : (ops[j]?).bind (·.dst) = some dj) (hd : look L dj = some undef) (ht : o.dst = some t) (hn : t < n)
    (h : ∀ a', Fr n a' ((t, undef) :: L) → wpList P ops Q rest a' w) : wpList P ops Q (o :: rest) a w := by
  have hw : Region.wanted o (yielded ops a.tmps) = false := by
    have := hf.l dj _ hd
    simp [Region.wanted, hg, yielded, hj, this, undef]
  refine wpList_step fun K hK => ?_
  rw [if_neg (by simp [hw])]
  refine hK _ _ (h _ ?_)
  rw [ht]
  exact hf.put t hn undef
def LastsL : List ((Nat → Nat) → World → Value → Prop) → Prop
  | [] => True
  | R :: r => Lasts R ∧ LastsL r
theorem LastsL.at_ : ∀ {l : List ((Nat → Nat) → World → Value → Prop)}, LastsL l → ∀ j, Lasts (l.getD j fun _ _ _ => True)
  | [], _, j => by intro ρ w ρ' w' v _ _; simp
  | R :: r, h, 0 => h.1
  | R :: r, h, j + 1 => LastsL.at_ h.2 j
def StepB (P : Program) (w0 : World) (n : Nat) (L : List (Nat × Value)) (l : List Oper) (Q : Exit → Act → World → Prop) (Γ : (Nat → Nat) → World → Prop) (Rl : List ((Nat → Nat) → World → Value → Prop)) (i : Nat) (o : Oper) : Prop :=
  ∀ ρ w a, Wd w0 ρ w → Γ ρ w → Fr n a L → (∀ j, depB o j = true → ∃ v, a.tmps[dstOf l j]? = some v ∧ (Rl.getD j fun _ _ _ => True) ρ w v) →
    ∀ K : Act → World → Prop, (∀ a' v ρ' w', Wd w0 ρ' w' → Ext ρ w ρ' w' → (Rl.getD i fun _ _ _ => True) ρ' w' v → a' = a.put (some (dstOf l i)) v → K a' w') → if Region.wanted o (yielded l.toArray a.tmps) = true then o.wp P a w K Q else K (a.put o.dst undef) w
def StepsB (P : Program) (w0 : World) (n : Nat) (L : List (Nat × Value)) (l : List Oper) (Q : Exit → Act → World → Prop) (Γ : (Nat → Nat) → World → Prop) (Rl : List ((Nat → Nat) → World → Value → Prop)) : Nat → List Oper → Prop
  | _, [] => True
  | i, o :: r => StepB P w0 n L l Q Γ Rl i o ∧ StepsB P w0 n L l Q Γ Rl (i + 1) r
theorem StepsB.at_ {l : List Oper} {Γ : (Nat → Nat) → World → Prop} {Rl : List ((Nat → Nat) → World → Value → Prop)} : ∀ {r : List Oper} {i : Nat}, StepsB P w0 n L l Q Γ Rl i r → ∀ j o, r[j]? = some o → StepB P w0 n L l Q Γ Rl (i + j) o
  | [], i, _, j, o, h => by cases h
  | o :: r, i, h, 0, o', h' => by
    injection h' with h'
    subst h'
    exact h.1
  | o :: r, i, h, j + 1, o', h' => by
    have := StepsB.at_ h.2 j o' h'
    rwa [Nat.add_assoc, Nat.add_comm 1 j] at this
theorem c_drawL {id h : Nat} {l : List Oper} (hm : P.follows .mixedOrders = true) (hB : drawB l h = true) (hD : dstB l h n (L.map (·.1)) = true) (Γ : (Nat → Nat) → World → Prop) (hΓ : ∀ ρ w ρ' w', Ext ρ w ρ' w' → Γ ρ w → Γ ρ' w')
    (Rl : List ((Nat → Nat) → World → Value → Prop)) (hR : LastsL Rl) (hw : Wd w0 ρ w) (hG : Γ ρ w) (hf : Fr n a L) (step : StepsB P w0 n L l Q Γ Rl 0 (l.take h))
    (tail : ∀ ρ w a, Wd w0 ρ w → Γ ρ w → Fr n a L → (∀ j, j < h → ∃ v, a.tmps[dstOf l j]? = some v ∧ (Rl.getD j fun _ _ _ => True) ρ w v) → wpList P l.toArray Q (l.drop h) a w) : (Code.region id l.toArray true).wp P Q a w :=
  c_draw hm hB hD Γ hΓ (fun j => Rl.getD j fun _ _ _ => True) (fun j _ => hR.at_ j) hw hG hf (fun i o ρ w a hi ho => by
    have := StepsB.at_ step i o (by rw [List.getElem?_take, if_pos hi]; exact ho)
    rw [Nat.zero_add] at this
    exact this ρ w a) tail
section
variable {l : List Oper} {Γ : (Nat → Nat) → World → Prop} {t : Nat} {R : (Nat → Nat) → World → Value → Prop} {K : Act → World → Prop}
theorem d_val (hw : Wd w0 ρ w) (hg : Region.wanted o (yielded ops a.tmps) = true) (hr : (execOp a.eval o).run P w = .ok (.value v) w) (hd : o.dst = some t) (hR : R ρ w v) (hK : ∀ a' v ρ' w', Wd w0 ρ' w' → Ext ρ w ρ' w' → R ρ' w' v → a' = a.put (some t) v → K a' w') :
    if Region.wanted o (yielded ops a.tmps) = true then o.wp P a w K Q else K (a.put o.dst undef) w := by
  rw [if_pos hg]
  unfold Oper.wp
  rw [hr]
  exact hK _ v ρ w hw (Ext.refl _ _) hR (by rw [hd])
theorem d_ex {Φ : Value → World → Prop} (hw : Wd w0 ρ w) (hg : Region.wanted o (yielded ops a.tmps) = true) (hr : ∃ v w', (execOp a.eval o).run P w = .ok (.value v) w' ∧ Φ v w') (hd : o.dst = some t) (hR : ∀ v w', Φ v w' → ∃ ρ', Wd w0 ρ' w' ∧ Ext ρ w ρ' w' ∧ R ρ' w' v) (hK : ∀ a' v ρ' w', Wd w0 ρ' w' → Ext ρ w ρ' w' → R ρ' w' v → a' = a.put (some t) v → K a' w') :
    if Region.wanted o (yielded ops a.tmps) = true then o.wp P a w K Q else K (a.put o.dst undef) w := by
  rw [if_pos hg]
  unfold Oper.wp
  obtain ⟨v, w', hr, hΦ⟩ := hr
  rw [hr]
  obtain ⟨ρ', h1, h2, h3⟩ := hR v w' hΦ
  exact hK _ v ρ' w' h1 h2 h3 (by rw [hd])
theorem d_call {f : FuncId} {args : Array Value} {Φ : Value → World → Prop} (hw : Wd w0 ρ w) (hg : Region.wanted o (yielded ops a.tmps) = true) (hr : (execOp a.eval o).run P w = .ok (.enter f args) w) (hc : Calls P f args w fun e w' => ∃ v, e = .returned v ∧ Φ v w') (hd : o.dst = some t) (hR : ∀ v w', Φ v w' → ∃ ρ', Wd w0 ρ' w' ∧ Ext ρ w ρ' w' ∧ R ρ' w' v) (hK : ∀ a' v ρ' w', Wd w0 ρ' w' → Ext ρ w ρ' w' → R ρ' w' v → a' = a.put (some t) v → K a' w') :
    if Region.wanted o (yielded ops a.tmps) = true then o.wp P a w K Q else K (a.put o.dst undef) w := by
  rw [if_pos hg]
  unfold Oper.wp
  rw [hr]
  refine hc.mono ?_
  rintro e w' ⟨v, rfl, hΦ⟩
  obtain ⟨ρ', h1, h2, h3⟩ := hR v w' hΦ
  exact hK _ v ρ' w' h1 h2 h3 (by rw [hd])
theorem wn (hg : o.guard = none) : Region.wanted o (yielded ops a.tmps) = true := by simp [Region.wanted, hg]
theorem wg {jj dj : Nat} {b b' : Bool} (hf : Fr n a L) (hg : o.guard = some (jj, b)) (hj : (ops[jj]?).bind (·.dst) = some dj) (hd : look L dj = some (.bool b')) (hb : b' = b) : Region.wanted o (yielded ops a.tmps) = true := by
  subst hb
  exact wants hf hg hj hd
theorem d_off {jj dj : Nat} {b b' : Bool} (hw : Wd w0 ρ w) (hf : Fr n a L) (hg : o.guard = some (jj, !b)) (hj : (ops[jj]?).bind (·.dst) = some dj) (hd : look L dj = some (.bool b')) (hb : b' = b) (hdd : o.dst = some t) (hR : R ρ w undef) (hK : ∀ a' v ρ' w', Wd w0 ρ' w' → Ext ρ w ρ' w' → R ρ' w' v → a' = a.put (some t) v → K a' w') :
    if Region.wanted o (yielded ops a.tmps) = true then o.wp P a w K Q else K (a.put o.dst undef) w := by
  subst hb
  have hw' : Region.wanted o (yielded ops a.tmps) = false := by
    simp [Region.wanted, hg, yield_of hf hj hd]
  rw [if_neg (by simp [hw'])]
  exact hK _ undef ρ w hw (Ext.refl _ _) hR (by rw [hdd])
end
end Go.Proofs.YtB

/- Words of this seat's own: '==' of arrays and structs without memory is equality. -/
set_option linter.unusedVariables false
set_option linter.unusedSimpArgs false
set_option linter.unusedSectionVars false
namespace Go.Proofs.YtB
open Go Go.RowKit
open Go.Proofs.YtbhaeajdabgnhaaW.PrintWords
variable {P : Program} {α β : Type} {T e : TypeId} {w : World}
/-- values of type e, coded by d, as Go has them -/
structure Vl (P : Program) (e : TypeId) (d : Fl α) (val : α → Value) : Prop where
  part : ∀ (xs : List Value) (off : Nat) (x : α) (w : World), (xs.drop off).take d.n = d.enc x → (part e xs.toArray off).run P w = .ok (val x) w
  size : ∃ i, P.info? e = some i ∧ i.size = d.n
theorem Vl.agg {d : Fl α} (h : Ty P e d.n true) : Vl P e d (fun x => .agg (d.enc x).toArray) :=
  ⟨fun xs off x w hx => by
    have e1 : xs.toArray.extract off (off + d.n) = ((xs.drop off).take d.n).toArray := by
      simp [List.extract_toArray, List.extract_eq_take_drop]
    simp [Go.part, run_isAgg h, run_size h, e1, hx], h.s⟩
theorem Vl.cell {d : Fl α} {val : α → Value} (h : Ty P e d.n false) (hd : ∀ x, d.enc x = [val x]) (hn : d.n = 1) : Vl P e d val :=
  ⟨fun xs off x w hx => by
    rw [hd, hn] at hx
    have h1 : xs[off]? = some (val x) := by
      have h2 := congrArg (·[0]?) hx
      simpa using h2
    simp [Go.part, run_isAgg h, h1], h.s⟩
def EqC (P : Program) (T : TypeId) [DecidableEq α] (val : α → Value) (dep : Nat) : Prop := ∀ (D : Nat) (x y : α) (w : World), (Op.equalIn (D + dep) T (val x) (val y)).run P w = .ok (decide (x = y)) w
theorem EqC.u8 (h : P.underlying T = some (.int .u8)) : EqC P T (fun b : UInt8 => .int .u8 (b.toNat : Int)) 1 := by
  intro D x y w
  rw [run_equalIn_int (P := P) w D T .u8 .u8 _ _ h]
  congr 1
  rw [Bool.eq_iff_iff]
  simp only [beq_iff_eq, decide_eq_true_eq]
  exact ⟨fun h => UInt8.toNat_inj.1 (Int.ofNat_inj.1 h), fun h => by rw [h]⟩
theorem EqC.i64 (h : P.underlying T = some (.int .i64)) : EqC P T (fun b : Int => .int .i64 b) 1 := by
  intro D x y w
  rw [run_equalIn_int (P := P) w D T .i64 .i64 _ _ h]
  congr 1
/-- a struct of three -/
theorem EqC.three [DecidableEq α] {d : Fl α} {dep : Nat} {f0 f1 f2 : Field} (hT : P.underlying T = some (.struct #[f0, f1, f2])) (hp : P.stoodInHeld T = false) (hn : (f0.name == "_") = false ∧ (f1.name == "_") = false ∧ (f2.name == "_") = false) (ht : f0.type = e ∧ f1.type = e ∧ f2.type = e) (ho : f0.offset = 0 ∧ f1.offset = d.n ∧ f2.offset = d.n + d.n)
    (hv : Vl P e d (fun x => .agg (d.enc x).toArray)) (he : EqC P e (fun x : α => .agg (d.enc x).toArray) dep) : EqC P T (fun v : α × α × α => .agg ((fPair d (fPair d d)).enc v).toArray) (dep + 1) := by
  intro D x y w
  have hf : P.fieldsOf T = #[f0, f1, f2] := by simp [Program.fieldsOf, hT]
  rw [← Nat.add_assoc, run_equalIn_struct (P := P) w (D + dep) T _ _ (by rw [hf]; exact hT) hp, hf]
  have n0 : f0.name ≠ "_" := by simpa using hn.1
  have n1 : f1.name ≠ "_" := by simpa using hn.2.1
  have n2 : f2.name ≠ "_" := by simpa using hn.2.2
  have p0 : ∀ (v : α × α × α) w, (Go.part f0.type ((fPair d (fPair d d)).enc v).toArray f0.offset).run P w = .ok (.agg (d.enc v.1).toArray) w := fun v w => by
    rw [ht.1, ho.1]
    exact hv.part _ 0 v.1 w ((Lens.fst d (fPair d d)).get v)
  have p1 : ∀ (v : α × α × α) w, (Go.part f1.type ((fPair d (fPair d d)).enc v).toArray f1.offset).run P w = .ok (.agg (d.enc v.2.1).toArray) w := fun v w => by
    rw [ht.2.1, ho.2.1]
    exact hv.part _ d.n v.2.1 w ((Lens.comp (Lens.snd d (fPair d d)) (Lens.fst d d)).get v)
  have p2 : ∀ (v : α × α × α) w, (Go.part f2.type ((fPair d (fPair d d)).enc v).toArray f2.offset).run P w = .ok (.agg (d.enc v.2.2).toArray) w := fun v w => by
    rw [ht.2.2, ho.2.2]
    exact hv.part _ (d.n + d.n) v.2.2 w ((Lens.comp (Lens.snd d (fPair d d)) (Lens.snd d d)).get v)
  have he0 : ∀ (f : Field) (p q : α) w, f.type = e → (Op.equalIn (D + dep) f.type (.agg (d.enc p).toArray) (.agg (d.enc q).toArray)).run P w = .ok (decide (p = q)) w := fun f p q w h => by
    rw [h]
    exact he D p q w
  simp only [Op.eqFields, n0, n1, n2, ne_eq, not_false_eq_true, if_true, Sem.run_bind, p0, p1, p2, Result.andThen_ok, he0 f0 _ _ _ ht.1]
  by_cases h0 : x.1 = y.1
  · simp only [h0, decide_true, Bool.not_true, Bool.false_eq_true, if_false, Sem.run_bind, p1, p2, Result.andThen_ok, he0 f1 _ _ _ ht.2.1]
    by_cases h1 : x.2.1 = y.2.1
    · simp only [h1, decide_true, Bool.not_true, Bool.false_eq_true, if_false, Sem.run_bind, p2, Result.andThen_ok, he0 f2 _ _ _ ht.2.2]
      by_cases h2 : x.2.2 = y.2.2
      · have : x = y := Prod.ext h0 (Prod.ext h1 h2)
        simp [h2, this]
      · have : x ≠ y := fun h => h2 (by rw [h])
        simp [h2, this]
    · have : x ≠ y := fun h => h1 (by rw [h])
      simp [h1, this]
  · have : x ≠ y := fun h => h0 (by rw [h])
    simp [h0, this]
theorem Cl.ext {ρ ρ' : Nat → Nat} {w' : World} {ad : Addr} {k : Nat} {cs : List Value} (h : Cl w ad k cs) (hE : Ext ρ w ρ' w') : Cl w' ad k cs := h.below hE.below
section
variable {Q : Exit → Act → World → Prop} {n : Nat} {L : List (Nat × Value)} {w0 : World} {l r : List Oper} {o : Oper} {Γ : (Nat → Nat) → World → Prop} {i : Nat}
theorem LastsL.nil : LastsL [] := trivial
theorem LastsL.cons {R : (Nat → Nat) → World → Value → Prop} {r : List ((Nat → Nat) → World → Value → Prop)} (h : Lasts R) (hr : LastsL r) : LastsL (R :: r) := ⟨h, hr⟩
theorem StepsB.nil {Rl : List ((Nat → Nat) → World → Value → Prop)} : StepsB P w0 n L l Q Γ Rl i [] := trivial
theorem StepsB.cons {Rl : List ((Nat → Nat) → World → Value → Prop)} (h : StepB P w0 n L l Q Γ Rl i o) (hr : StepsB P w0 n L l Q Γ Rl (i + 1) r) : StepsB P w0 n L l Q Γ Rl i (o :: r) := ⟨h, hr⟩
end
end Go.Proofs.YtB

/- Words of this seat's own: a region whose order is open and that has effects, one after the other. -/
set_option linter.unusedVariables false
set_option linter.unusedSimpArgs false
set_option linter.unusedSectionVars false
namespace Go.Proofs.YtB
open Go Go.RowKit
open Go.Proofs.YtbhaeajdabgnhaaW.PrintWords
variable {P : Program} {n : Nat} {a : Act} {L : List (Nat × Value)} {w w' w0 : World} {Q : Exit → Act → World → Prop} {ops : Array Oper} {rest : List Oper} {o : Oper}
variable {ρ ρ' : Nat → Nat}
/-- a fact on an answer, by how many of the effects have been -/
abbrev SR := Nat → (Nat → Nat) → World → Value → Prop
def hasD (l : List Oper) (j : Nat) : Bool := match l[j]? with
  | some o => o.dst.isSome
  | none => false
def dep (l : List Oper) (i j : Nat) : Bool := match l[i]? with
  | some o => depB o j
  | none => false
/-- 'i waits for j', by one step or two -/
def dep2 (l : List Oper) (i j : Nat) : Bool := dep l i j || (List.range i).any fun k => dep l i k && dep l k j
/-- the first h operations: 'ms' are the effects among them, in their order; the others have an answer -/
def stageB (l : List Oper) (h n : Nat) (ks : List Nat) (ms : List Nat) : Bool :=
  ((List.range h).all fun i => (ms.contains i || hasD l i) && (!hasD l i || (decide (dstOf l i < n) && !ks.contains (dstOf l i) && (List.range i).all fun j => !hasD l j || dstOf l j != dstOf l i))) &&
  ((List.range ms.length).all fun m => decide (ms.getD m 0 < h) && (List.range m).all fun m' => dep l (ms.getD m 0) (ms.getD m' 0) && ms.getD m' 0 != ms.getD m 0)
def nth (Rl : List SR) (j : Nat) : SR := Rl.getD j fun _ _ _ _ => True
/-- what holds of the answers that are there -/
def Got (l : List Oper) (h : Nat) (Rl : List SR) (S : Nat → Prop) (c : Nat) (ρ : Nat → Nat) (w : World) (a : Act) : Prop :=
  ∀ j, j < h → S j → hasD l j = true → ∃ v, a.tmps[dstOf l j]? = some v ∧ nth Rl j c ρ w v
def FloatB (P : Program) (w0 : World) (n : Nat) (L : List (Nat × Value)) (l : List Oper) (Q : Exit → Act → World → Prop) (Γ : Nat → (Nat → Nat) → World → Prop) (Rl : List SR) (ms : List Nat) (i : Nat) (o : Oper) : Prop :=
  ∀ c ρ w a, (∀ m, m < ms.length → dep2 l (ms.getD m 0) i = true → c ≤ m) → Wd w0 ρ w → Γ c ρ w → Fr n a L → (∀ j, depB o j = true → hasD l j = true → ∃ v, a.tmps[dstOf l j]? = some v ∧ nth Rl j c ρ w v) →
    ∀ K : Act → World → Prop, (∀ a' v ρ' w', Wd w0 ρ' w' → Ext ρ w ρ' w' → nth Rl i c ρ' w' v → a' = a.put (some (dstOf l i)) v → K a' w') → if Region.wanted o (yielded l.toArray a.tmps) = true then o.wp P a w K Q else K (a.put o.dst undef) w
def MainB (P : Program) (w0 : World) (n : Nat) (L : List (Nat × Value)) (l : List Oper) (h : Nat) (Q : Exit → Act → World → Prop) (Γ : Nat → (Nat → Nat) → World → Prop) (Rl : List SR) (m i : Nat) (o : Oper) : Prop :=
  ∀ ρ w a (S : Nat → Prop), Wd w0 ρ w → Γ m ρ w → Fr n a L → Got l h Rl S m ρ w a → (∀ j, depB o j = true → S j) → ¬ S i →
    ∀ K : Act → World → Prop, (∀ a' ρ' w', Wd w0 ρ' w' → Γ (m + 1) ρ' w' → Fr n a' L → Got l h Rl (fun j => j = i ∨ S j) (m + 1) ρ' w' a' → K a' w') → if Region.wanted o (yielded l.toArray a.tmps) = true then o.wp P a w K Q else K (a.put o.dst undef) w
/-- the first operations, each as a float or as an effect -/
def StepsS (P : Program) (w0 : World) (n : Nat) (L : List (Nat × Value)) (l : List Oper) (h : Nat) (Q : Exit → Act → World → Prop) (Γ : Nat → (Nat → Nat) → World → Prop) (Rl : List SR) (ms : List Nat) : Nat → List Oper → Prop
  | _, [] => True
  | i, o :: r => (if ms.contains i then MainB P w0 n L l h Q Γ Rl (ms.idxOf i) i o else FloatB P w0 n L l Q Γ Rl ms i o) ∧ StepsS P w0 n L l h Q Γ Rl ms (i + 1) r
section
variable {l r : List Oper} {h i : Nat} {Γ : Nat → (Nat → Nat) → World → Prop} {Rl : List SR} {ms : List Nat}
theorem StepsS.nil : StepsS P w0 n L l h Q Γ Rl ms i [] := trivial
theorem StepsS.float (hi : ms.contains i = false) (h1 : FloatB P w0 n L l Q Γ Rl ms i o) (hr : StepsS P w0 n L l h Q Γ Rl ms (i + 1) r) : StepsS P w0 n L l h Q Γ Rl ms i (o :: r) := ⟨by rw [hi]; exact h1, hr⟩
theorem StepsS.main (m : Nat) (hi : ms.contains i = true) (hm : ms.idxOf i = m) (h1 : MainB P w0 n L l h Q Γ Rl m i o) (hr : StepsS P w0 n L l h Q Γ Rl ms (i + 1) r) : StepsS P w0 n L l h Q Γ Rl ms i (o :: r) := ⟨by rw [hi, hm]; exact h1, hr⟩
theorem StepsS.at_ : ∀ {r : List Oper} {i : Nat}, StepsS P w0 n L l h Q Γ Rl ms i r → ∀ j o, r[j]? = some o → if ms.contains (i + j) then MainB P w0 n L l h Q Γ Rl (ms.idxOf (i + j)) (i + j) o else FloatB P w0 n L l Q Γ Rl ms (i + j) o
  | [], i, _, j, o, h => by cases h
  | o :: r, i, h, 0, o', h' => by
    injection h' with h'
    subst h'
    exact h.1
  | o :: r, i, h, j + 1, o', h' => by
    have := StepsS.at_ h.2 j o' h'
    rwa [Nat.add_assoc, Nat.add_comm 1 j] at this
/-- a fact lasts over what only makes -/
def LastsS (Rl : List SR) : Prop := ∀ j c ρ w ρ' w' v, Ext ρ w ρ' w' → nth Rl j c ρ w v → nth Rl j c ρ' w' v
theorem LastsS.nil : LastsS [] := by intro j c ρ w ρ' w' v _ _; simp [nth]
theorem LastsS.cons {R : SR} {Rl : List SR} (hR : ∀ c ρ w ρ' w' v, Ext ρ w ρ' w' → R c ρ w v → R c ρ' w' v) (hr : LastsS Rl) : LastsS (R :: Rl) := by
  intro j c ρ w ρ' w' v hE hj
  cases j with
  | zero => exact hR c ρ w ρ' w' v hE hj
  | succ j => exact hr j c ρ w ρ' w' v hE hj
theorem idx_nodup {ms : List Nat} (hd : ∀ m m', m' < m → m < ms.length → ms.getD m' 0 ≠ ms.getD m 0) {m : Nat} (hm : m < ms.length) : ms.idxOf (ms.getD m 0) = m := by
  have hin : ms.getD m 0 ∈ ms := by
    rw [List.getD_eq_getElem?_getD, List.getElem?_eq_getElem hm]
    exact List.getElem_mem hm
  have hlt := List.idxOf_lt_length_of_mem hin
  have hg : ms.getD (ms.idxOf (ms.getD m 0)) 0 = ms.getD m 0 := by
    rw [List.getD_eq_getElem?_getD, List.getElem?_eq_getElem hlt]
    simp
  rcases Nat.lt_trichotomy (ms.idxOf (ms.getD m 0)) m with h1 | h1 | h1
  · exact absurd hg (hd m _ h1 hm)
  · exact h1
  · exact absurd hg.symm (hd _ m h1 hlt)
theorem c_stage {id : Nat} (h : Nat) (ms : List Nat) (hm : P.follows .mixedOrders = true) (hB : drawB l h = true) (hD : stageB l h n (L.map (·.1)) ms = true) (Γ : Nat → (Nat → Nat) → World → Prop) (hΓ : ∀ c ρ w ρ' w', Ext ρ w ρ' w' → Γ c ρ w → Γ c ρ' w')
    (Rl : List SR) (hR : LastsS Rl) (hw : Wd w0 ρ w) (hG : Γ 0 ρ w) (hf : Fr n a L) (steps : StepsS P w0 n L l h Q Γ Rl ms 0 (l.take h))
    (tail : ∀ ρ w a, Wd w0 ρ w → Γ ms.length ρ w → Fr n a L → (∀ j, j < h → hasD l j = true → ∃ v, a.tmps[dstOf l j]? = some v ∧ nth Rl j ms.length ρ w v) → wpList P l.toArray Q (l.drop h) a w) : (Code.region id l.toArray true).wp P Q a w := by
  have hD1 : ∀ i, i < h → (ms.contains i = true ∨ hasD l i = true) ∧ (hasD l i = true → dstOf l i < n ∧ ¬ dstOf l i ∈ L.map (·.1) ∧ ∀ j, j < i → hasD l j = true → dstOf l j ≠ dstOf l i) := by
    intro i hi
    simp only [stageB, Bool.and_eq_true] at hD
    have h1 := List.all_eq_true.1 hD.1 i (List.mem_range.2 hi)
    simp only [Bool.and_eq_true, Bool.or_eq_true, Bool.not_eq_true', decide_eq_true_eq, List.contains_eq_mem, decide_eq_false_iff_not] at h1
    refine ⟨by simpa using h1.1, fun hd => ?_⟩
    rcases h1.2 with h2 | ⟨⟨h2, h3⟩, h4⟩
    · rw [hd] at h2; cases h2
    · refine ⟨h2, h3, fun j hj hdj => ?_⟩
      have := List.all_eq_true.1 h4 j (List.mem_range.2 hj)
      simpa [hdj] using this
  have hD2 : ∀ m, m < ms.length → ms.getD m 0 < h ∧ ∀ m', m' < m → dep l (ms.getD m 0) (ms.getD m' 0) = true ∧ ms.getD m' 0 ≠ ms.getD m 0 := by
    intro m hm
    simp only [stageB, Bool.and_eq_true] at hD
    have h1 := List.all_eq_true.1 hD.2 m (List.mem_range.2 hm)
    simp only [Bool.and_eq_true, decide_eq_true_eq] at h1
    refine ⟨h1.1, fun m' hm' => ?_⟩
    have := List.all_eq_true.1 h1.2 m' (List.mem_range.2 hm')
    simpa using this
  have hidx : ∀ m, m < ms.length → ms.idxOf (ms.getD m 0) = m := fun m hm => idx_nodup (fun m m' h1 h2 => ((hD2 m h2).2 m' h1).2) hm
  have hne : ∀ i j, i < h → j < h → i ≠ j → hasD l i = true → hasD l j = true → dstOf l i ≠ dstOf l j := by
    intro i j hi hj hij hdi hdj
    rcases Nat.lt_or_gt_of_ne hij with h1 | h1
    · exact ((hD1 j hj).2 hdj).2.2 i h1 hdi
    · exact fun he => ((hD1 i hi).2 hdi).2.2 j h1 hdj he.symm
  have hlk : ∀ (L : List (Nat × Value)) t v, look L t = some v → t ∈ L.map (·.1) := by
    intro L
    induction L with
    | nil => intro t v h; cases h
    | cons p r ih =>
      intro t v h
      obtain ⟨k, u⟩ := p
      simp only [look] at h
      cases hb : Nat.beq k t with
      | true =>
        have := Nat.eq_of_beq_eq_true hb
        simp [this]
      | false =>
        rw [hb] at h
        have := ih t v h
        simp only [List.map_cons, List.mem_cons]
        exact .inr this
  have hback : ∀ i o, i < h → l[i]? = some o → ∀ j, depB o j = true → j < i := by
    intro i o hi ho j hj
    simp only [drawB, Bool.and_eq_true] at hB
    have hb := List.all_eq_true.1 hB.1 i (List.mem_range.2 hi)
    rw [ho] at hb
    obtain ⟨e, he, hbe⟩ := Array.any_eq_true'.1 hj
    simp only [Bool.and_eq_true, beq_iff_eq] at hbe
    have := Array.all_eq_true'.1 hb e he
    simp only [hbe.1, Bool.not_true, Bool.false_or, decide_eq_true_eq] at this
    omega
  refine c_any (h := h) hm hB (fun S a w => ∃ c ρ, c ≤ ms.length ∧ (∀ m, m < ms.length → (S (ms.getD m 0) ↔ m < c)) ∧ (∀ i j, i < h → S i → dep l i j = true → S j) ∧ Wd w0 ρ w ∧ Γ c ρ w ∧ Fr n a L ∧ Got l h Rl S c ρ w a) ?_ ?_ ?_ ?_
  · rintro S S' a w hS ⟨c, ρ, h1, h2, h3, h4, h5, h6, h7⟩
    refine ⟨c, ρ, h1, fun m hm => (hS _ (hD2 m hm).1).symm.trans (h2 m hm), fun i j hi hSi hd => ?_, h4, h5, h6, fun j hj hSj hd => h7 j hj ((hS j hj).2 hSj) hd⟩
    have hji : j < h := by
      unfold dep at hd
      split at hd
      · rename_i o ho
        have := hback i o hi ho j hd
        omega
      · cases hd
    exact (hS j hji).1 (h3 i j hi ((hS i hi).2 hSi) hd)
  · have hE : Ext ρ w ρ { w with drawn := w.drawn + 1 } := ⟨⟨rfl, rfl, rfl, Nat.le_refl _, fun _ _ => rfl, Nat.le_succ _⟩, fun _ _ => rfl⟩
    exact ⟨0, ρ, Nat.zero_le _, fun m _ => ⟨fun h => h.elim, fun h => by omega⟩, fun _ _ _ h => h.elim, ⟨⟨hw.below.os, hw.below.tape, hw.below.output, hw.below.size, hw.below.block, Nat.le_succ_of_le hw.below.drawn⟩, hw.own⟩, hΓ _ _ _ _ _ hE hG, hf, fun _ _ h => h.elim⟩
  · rintro S a w i o hi ho hSi hdep ⟨c, ρ, h1, h2, h3, h4, h5, h6, h7⟩
    have hst := StepsS.at_ steps i o (by rw [List.getElem?_take, if_pos hi]; exact ho)
    rw [Nat.zero_add] at hst
    have hdo : ∀ j, dep l i j = depB o j := fun j => by simp [dep, ho]
    have hclose : ∀ i' j, i' < h → (i' = i ∨ S i') → dep l i' j = true → (j = i ∨ S j) := by
      rintro i' j hi' (rfl | hS') hd
      · exact .inr (hdep j (by rw [← hdo]; exact hd))
      · exact .inr (h3 i' j hi' hS' hd)
    have hop : (∀ (K : Act → World → Prop), (∀ a' w', K a' w' → ∃ c ρ, c ≤ ms.length ∧ (∀ m, m < ms.length → ((ms.getD m 0 = i ∨ S (ms.getD m 0)) ↔ m < c)) ∧ (∀ i' j, i' < h → (i' = i ∨ S i') → dep l i' j = true → (j = i ∨ S j)) ∧ Wd w0 ρ w' ∧ Γ c ρ w' ∧ Fr n a' L ∧ Got l h Rl (fun j => j = i ∨ S j) c ρ w' a') →
        (if Region.wanted o (yielded l.toArray a.tmps) = true then o.wp P a w K Q else K (a.put o.dst undef) w) → wpOp P l.toArray Q i (fun a' w' => ∃ c ρ, c ≤ ms.length ∧ (∀ m, m < ms.length → ((ms.getD m 0 = i ∨ S (ms.getD m 0)) ↔ m < c)) ∧ (∀ i' j, i' < h → (i' = i ∨ S i') → dep l i' j = true → (j = i ∨ S j)) ∧ Wd w0 ρ w' ∧ Γ c ρ w' ∧ Fr n a' L ∧ Got l h Rl (fun j => j = i ∨ S j) c ρ w' a') a w) := by
      intro K hK hs
      refine wpOp_mono (K := K) hK ?_
      unfold wpOp
      have : l.toArray[i]? = some o := by simpa using ho
      simp only [this]
      split
      · rename_i hw'
        rw [if_pos hw'] at hs
        exact .inl hs
      · rename_i hw'
        rw [if_neg hw'] at hs
        exact hs
    cases hmi : ms.contains i with
    | true =>
      rw [hmi, if_pos rfl] at hst
      have hmem : i ∈ ms := by simpa using hmi
      have hlt := List.idxOf_lt_length_of_mem hmem
      have hget : ms.getD (ms.idxOf i) 0 = i := by
        rw [List.getD_eq_getElem?_getD, List.getElem?_eq_getElem hlt]
        simp
      have hc : c = ms.idxOf i := by
        have e1 : ¬ ms.idxOf i < c := fun h => hSi (by have := (h2 _ hlt).2 h; rwa [hget] at this)
        rcases Nat.lt_or_ge c (ms.idxOf i) with h8 | h8
        · exfalso
          have h9 := ((hD2 _ hlt).2 c h8).1
          rw [hget, hdo] at h9
          have := (h2 c (by omega)).1 (hdep _ h9)
          omega
        · omega
      subst hc
      refine hop _ (fun a' w' h => h) (hst ρ w a S h4 h5 h6 h7 hdep hSi _ ?_)
      intro a' ρ' w' e1 e2 e3 e4
      refine ⟨ms.idxOf i + 1, ρ', by omega, fun m hm => ?_, hclose, e1, e2, e3, e4⟩
      constructor
      · rintro (h8 | h8)
        · have := hidx m hm
          rw [h8] at this
          omega
        · have := (h2 m hm).1 h8
          omega
      · intro h8
        rcases Nat.lt_or_ge m (ms.idxOf i) with h9 | h9
        · exact .inr ((h2 m hm).2 h9)
        · have : m = ms.idxOf i := by omega
          exact .inl (by rw [this, hget])
    | false =>
      rw [hmi] at hst
      simp only [Bool.false_eq_true, if_false] at hst
      have hdi : hasD l i = true := ((hD1 i hi).1).resolve_left (by rw [hmi]; simp)
      refine hop _ (fun a' w' h => h) (hst c ρ w a (fun m hm hd => ?_) h4 h5 h6 (fun j hj hdj => h7 j (by have := hback i o hi ho j hj; omega) (hdep j hj) hdj) _ ?_)
      · rcases Nat.lt_or_ge m c with h8 | h8
        · have hS0 := (h2 m hm).2 h8
          simp only [dep2, Bool.or_eq_true, List.any_eq_true, List.mem_range, Bool.and_eq_true] at hd
          rcases hd with hd | ⟨k, hk, hd1, hd2⟩
          · exact absurd (h3 _ i (hD2 m hm).1 hS0 hd) hSi
          · exact absurd (h3 k i (Nat.lt_trans hk (hD2 m hm).1) (h3 _ k (hD2 m hm).1 hS0 hd1) hd2) hSi
        · exact h8
      · rintro a' v ρ' w' e1 e2 e3 rfl
        have hput : ∀ t, t ≠ dstOf l i → (a.put (some (dstOf l i)) v).tmps[t]? = a.tmps[t]? := by
          intro t ht
          simp only [Act.put]
          rw [Array.getElem?_setIfInBounds_ne (Ne.symm ht)]
        obtain ⟨hn, hnl, _⟩ := (hD1 i hi).2 hdi
        refine ⟨c, ρ', h1, fun m hm => ?_, hclose, e1, hΓ _ _ _ _ _ e2 h5, ⟨h6.d, by simp [Act.put, h6.s], fun t u hu => ?_⟩, fun j hj hS hdj => ?_⟩
        · rw [← h2 m hm]
          constructor
          · rintro (h8 | h8)
            · exfalso
              have : i ∈ ms := by
                rw [← h8, List.getD_eq_getElem?_getD, List.getElem?_eq_getElem hm]
                exact List.getElem_mem hm
              rw [show ms.contains i = true by simpa using this] at hmi
              cases hmi
            · exact h8
          · exact .inr
        · rw [hput t (fun he => hnl (by rw [← he]; exact hlk L t u hu))]
          exact h6.l t u hu
        · by_cases hji : j = i
          · subst hji
            exact ⟨v, by simp [Act.put, h6.s, hn], e3⟩
          · obtain ⟨u, hu, hRu⟩ := h7 j hj (hS.resolve_left hji) hdj
            exact ⟨u, by rw [hput _ (hne j i hj hi hji hdj hdi)]; exact hu, hR _ _ _ _ _ _ _ e2 hRu⟩
  · rintro a w ⟨c, ρ, h1, h2, h3, h4, h5, h6, h7⟩
    have hc : c = ms.length := by
      rcases Nat.lt_or_ge c ms.length with h8 | h8
      · exact absurd ((h2 c h8).1 trivial) (Nat.lt_irrefl _)
      · omega
    subst hc
    exact tail ρ w a h4 h5 h6 (fun j hj hd => h7 j hj trivial hd)
def PassL (l : List Oper) (a : Act) (m : Nat) (ρ : Nat → Nat) (w : World) (ρ' : Nat → Nat) (w' : World) (i : Nat) : Nat → List SR → Prop
  | _, [] => True
  | j, R :: r => (j ≠ i → (∃ v, a.tmps[dstOf l j]? = some v ∧ R m ρ w v) → ∃ v, a.tmps[dstOf l j]? = some v ∧ R (m + 1) ρ' w' v) ∧ PassL l a m ρ w ρ' w' i (j + 1) r
theorem PassL.nil {m j : Nat} : PassL l a m ρ w ρ' w' i j [] := trivial
theorem PassL.cons {m j : Nat} {R : SR} (h : (∃ v, a.tmps[dstOf l j]? = some v ∧ R m ρ w v) → ∃ v, a.tmps[dstOf l j]? = some v ∧ R (m + 1) ρ' w' v) (hr : PassL l a m ρ w ρ' w' i (j + 1) Rl) : PassL l a m ρ w ρ' w' i j (R :: Rl) := ⟨fun _ => h, hr⟩
theorem PassL.here {m : Nat} {R : SR} (hr : PassL l a m ρ w ρ' w' i (i + 1) Rl) : PassL l a m ρ w ρ' w' i i (R :: Rl) := ⟨fun h => absurd rfl h, hr⟩
theorem PassL.at_ {m i : Nat} : ∀ {Rl : List SR} {k : Nat}, PassL l a m ρ w ρ' w' i k Rl → ∀ j, k + j ≠ i → (∃ v, a.tmps[dstOf l (k + j)]? = some v ∧ nth Rl j m ρ w v) → ∃ v, a.tmps[dstOf l (k + j)]? = some v ∧ nth Rl j (m + 1) ρ' w' v
  | [], k, _, j, _, ⟨v, h1, _⟩ => ⟨v, h1, by simp [nth]⟩
  | R :: r, k, h, 0, hne, hv => h.1 hne hv
  | R :: r, k, h, j + 1, hne, hv => by
    rw [← Nat.add_assoc, Nat.add_right_comm] at hv hne ⊢
    exact PassL.at_ h.2 j hne hv
theorem m_skip {m : Nat} {S : Nat → Prop} {Φ : World → Prop} {K : Act → World → Prop} (hf : Fr n a L) (hS : Got l h Rl S m ρ w a) (hi : hasD l i = false) (hdn : o.dst = none) (hg : Region.wanted o (yielded ops a.tmps) = true)
    (hr : ∃ w', (execOp a.eval o).run P w = .ok .skip w' ∧ Φ w') (hh : ∀ w', Φ w' → ∃ ρ', Wd w0 ρ' w' ∧ Γ (m + 1) ρ' w' ∧ PassL l a m ρ w ρ' w' i 0 Rl)
    (hK : ∀ a' ρ' w', Wd w0 ρ' w' → Γ (m + 1) ρ' w' → Fr n a' L → Got l h Rl (fun j => j = i ∨ S j) (m + 1) ρ' w' a' → K a' w') :
    if Region.wanted o (yielded ops a.tmps) = true then o.wp P a w K Q else K (a.put o.dst undef) w := by
  rw [if_pos hg]
  unfold Oper.wp
  obtain ⟨w', hr, hΦ⟩ := hr
  rw [hr]
  obtain ⟨ρ', h1, h2, h3⟩ := hh w' hΦ
  have e : a.put o.dst undef = a := by rw [hdn]; rfl
  show K (a.put o.dst undef) w'
  rw [e]
  refine hK _ ρ' w' h1 h2 hf fun j hj hSj hd => ?_
  have hne : j ≠ i := by
    rintro rfl
    rw [hi] at hd
    cases hd
  have := h3.at_ j
  rw [Nat.zero_add] at this
  exact this hne (hS j hj (hSj.resolve_left hne) hd)
end
end Go.Proofs.YtB

/- Words of this seat's own: literals of elements with memory; calls that turn a slice of the caller's own. -/
set_option linter.unusedVariables false
set_option linter.unusedSimpArgs false
set_option linter.unusedSectionVars false
namespace Go.Proofs.YtB
open Go Go.RowKit
open Go.Proofs.YtbhaeajdabgnhaaW.PrintWords
variable {P : Program} {n : Nat} {a : Act} {L : List (Nat × Value)} {w w' w0 ws : World} {Q : Exit → Act → World → Prop} {ops : Array Oper} {rest : List Oper} {o : Oper}
variable {x y : Operand} {p q : Int} {T T' ty : TypeId} {pos : String} {af : Array Edge} {gd : Option (Nat × Bool)} {dd : Option Tmp} {ad : Addr} {k : Nat} {cs : List Value} {m : Nat}
variable {ρ ρ' ρ0 : Nat → Nat} {i j g e B : Nat} {α β : Type} {d : Kd α} {xs ys : List α} {v u : Value}
def All2 (R : α → β → Prop) : List α → List β → Prop
  | [], [] => True
  | x :: xs, y :: ys => R x y ∧ All2 R xs ys
  | _, _ => False
theorem All2.imp {R R' : α → β → Prop} (h : ∀ x y, R x y → R' x y) : ∀ {xs : List α} {ys : List β}, All2 R xs ys → All2 R' xs ys
  | [], [], _ => trivial
  | x :: xs, y :: ys, hh => ⟨h _ _ hh.1, All2.imp h hh.2⟩
  | [], y :: ys, hh => hh.elim
  | x :: xs, [], hh => hh.elim
theorem All2.len {R : α → β → Prop} : ∀ {xs : List α} {ys : List β}, All2 R xs ys → xs.length = ys.length
  | [], [], _ => rfl
  | x :: xs, y :: ys, hh => by simp [All2.len hh.2]
  | [], y :: ys, hh => hh.elim
  | x :: xs, [], hh => hh.elim
theorem All2.get {R : α → β → Prop} : ∀ {xs : List α} {ys : List β}, All2 R xs ys → ∀ (j : Nat) (x : α) (y : β), xs[j]? = some x → ys[j]? = some y → R x y
  | [], [], _, j, x, y, h, _ => by cases h
  | x :: xs, y :: ys, hh, 0, x', y', h, h' => by
    injection h with h
    injection h' with h'
    subst h; subst h'
    exact hh.1
  | x :: xs, y :: ys, hh, j + 1, x', y', h, h' => All2.get hh.2 j x' y' h h'
  | [], y :: ys, hh, _, _, _, _, _ => hh.elim
  | x :: xs, [], hh, _, _, _, _, _ => hh.elim
abbrev RawT (m : Nat) := {x : List Value // x.length = m ∧ ∀ u ∈ x, u.oneCell' = true}
def fRaw (m : Nat) : Fl (RawT m) := ⟨m, fun x => x.1, fun x => x.2.1, fun x => x.2.2⟩
theorem raw_ro {raws : List (RawT m)} (hd : d.sz = m) (h : Ro (kf (fRaw m)) w v raws) (hK : All2 (fun x (r : RawT m) => d.K w x r.1) xs raws) : Ro d w v xs := by
  obtain ⟨A, c, rfl, hc, h1, h2, h3⟩ := h
  have hl := hK.len
  refine ⟨A, c, by rw [hl], by omega, rfl, by omega, fun hn => ?_⟩
  obtain ⟨ad, hA, hh⟩ := h3 (by omega)
  refine ⟨ad, hA, fun j p hj => ?_⟩
  have hjl : j < xs.length := (List.getElem?_eq_some_iff.1 hj).1
  obtain ⟨c, hc1, hc2, hc3⟩ := hh j _ (List.getElem?_eq_getElem (by omega))
  have hc2' : c = (raws[j]'(by omega)).1 := hc2
  have hk := hK.get j _ _ (List.getElem?_eq_getElem hjl) (List.getElem?_eq_getElem (show j < raws.length by omega))
  have hp : xs[j] = p := by
    have := List.getElem?_eq_getElem hjl
    rw [hj] at this
    injection this with this
    exact this.symm
  refine ⟨c, by rw [hc1, hd]; rfl, ?_, by rw [hd]; exact hc3⟩
  rw [hc2', ← hp]
  exact hk
theorem r_lit_ro {bytes : Nat} {z : Value} {l : List (Nat × Operand)} {vs : List Value} {raws : List (RawT m)} (hd : d.sz = m) (hT : P.underlying T = some (.slice e)) (he : El P e m bytes z) (hlen : raws.length * m ≤ 16777216) (hm : raws.length ≤ 16777216) (hw : Wd w0 ρ w) (hf : Fr n a L)
    (hl : l.map (fun p => ev L p.2) = vs.map some) (hi : l.map (·.1) = List.range raws.length) (hv : vs.map (fun v => v.cells.toList) = raws.map (·.1)) (hK : All2 (fun x (r : RawT m) => d.K w x r.1) xs raws) :
    ∃ v w', (execOp a.eval ⟨dd, .buildSlice T raws.length l.toArray, ty, pos, af, gd⟩).run P w = .ok (.value v) w' ∧ ∃ ρ', Wd w0 ρ' w' ∧ Ext ρ w ρ' w' ∧ Ro d w' v xs := by
  obtain ⟨v, w', h1, ρ', h2, h3, h4⟩ := r_lit (d := fRaw m) (dd := dd) (ty := ty) (pos := pos) (af := af) (gd := gd) 1 hT he hlen hm hw hf hl hi hv
  exact ⟨v, w', h1, ρ', h2, h3, raw_ro hd h4.ro (hK.imp fun x r hr => d.K_below h3.below.k hr)⟩

/-- what was not that slice's is as it was -/
structure Old (r1 : Nat → Nat) (ws : World) (ρ : Nat → Nat) (w : World) : Prop where
  size : ws.heap.size ≤ w.heap.size
  rho : ∀ k, k < ws.heap.size → ρ k = r1 k
  blk : ∀ k, k < ws.heap.size → r1 k = 0 → w.heap[k]? = ws.heap[k]?
theorem Old.adv {r1 : Nat → Nat} (h : Old r1 ws ρ w) (hA : Adv i ρ w ρ' w') (hne : 0 ≠ i) : Old r1 ws ρ' w' :=
  ⟨Nat.le_trans h.size hA.size, fun k hk => (hA.rho k (Nat.lt_of_lt_of_le hk h.size)).trans (h.rho k hk), fun k hk h0 => (hA.blk k (Nat.lt_of_lt_of_le hk h.size) (by rw [h.rho k hk, h0]; exact hne)).trans (h.blk k hk h0)⟩
theorem Old.ext {r1 : Nat → Nat} (h : Old r1 ws ρ w) (hE : Ext ρ w ρ' w') : Old r1 ws ρ' w' :=
  ⟨Nat.le_trans h.size hE.below.size, fun k hk => (hE.rho k (Nat.lt_of_lt_of_le hk h.size)).trans (h.rho k hk), fun k hk h0 => (hE.below.block k (Nat.lt_of_lt_of_le hk h.size)).trans (h.blk k hk h0)⟩
def oneOf (ρ0 : Nat → Nat) (i : Nat) : Nat → Nat := fun k => if ρ0 k = i then 1 else 0
theorem st_mfn {dt : Nat} {f : FuncId} {args : Array Value} {Φ : (Nat → Nat) → Value → World → Prop} (hf : Fr n a L) (hg : o.guard = none) (hd : o.dst = some dt) (hn : dt < n) (hr : (execOp a.eval o).run P w = .ok (.enter f args) w)
    (hc : Calls P f args w fun e w' => ∃ v, e = .returned v ∧ ∃ ρ', Wd w0 ρ' w' ∧ Adv i ρ w ρ' w' ∧ Φ ρ' v w')
    (h : ∀ a' v w' ρ', Fr n a' ((dt, v) :: L) → Wd w0 ρ' w' → Adv i ρ w ρ' w' → Φ ρ' v w' → wpList P ops Q rest a' w') : wpList P ops Q (o :: rest) a w :=
  st_call (Φ := fun v w' => ∃ ρ', Wd w0 ρ' w' ∧ Adv i ρ w ρ' w' ∧ Φ ρ' v w') hf hg hd hn hr hc fun a' v w' hf' ⟨ρ', h1, h2, h3⟩ => h a' v w' ρ' hf' h1 h2 h3
theorem r_store_ek {d : Fl α} {d' : Fl β} {off : Nat} {gt : α → β} {s : α → β → α} {b : β} {c : Nat} {ag : Bool} {xs : List α} (z : α) (hw : Wd w0 ρ w) (hi : i ≠ 0) (hv : Ow (kf d) e ρ w w0.heap.size i v xs) (h0 : 0 ≤ p) (h1 : p < xs.length) (hl : Lens d d' off gt s) (hve : v = .slice (some ad) xs.length c) (hT : Ty P T d'.n ag)
    (hk : k = p.toNat * d.n + off) (hf : Fr n a L) (hx : ev L x = some (.pointer (some (ad.add k)))) (hy : ev L y = some u) (hu : u.cells.toList = d'.enc b) :
    ∃ w', (execOp a.eval ⟨dd, .store T x y, ty, pos, af, gd⟩).run P w = .ok .skip w' ∧ Wd w0 ρ w' ∧ Adv i ρ w ρ w' ∧ Ow (kf d) e ρ w' w0.heap.size i v (xs.set p.toNat (s (gl z xs p) b)) := by
  subst hk
  exact r_store_el z hw hi hv h0 h1 hl hve hT hf hx hy hu
end Go.Proofs.YtB

/- Words of this seat's own: empty literals; slices beside nil; function values. -/
set_option linter.unusedVariables false
set_option linter.unusedSimpArgs false
set_option linter.unusedSectionVars false
namespace Go.Proofs.YtB
open Go Go.RowKit
open Go.Proofs.YtbhaeajdabgnhaaW.PrintWords
variable {P : Program} {n : Nat} {a : Act} {L : List (Nat × Value)} {w w' w0 ws : World} {Q : Exit → Act → World → Prop} {ops : Array Oper} {rest : List Oper} {o : Oper}
variable {x y : Operand} {p q : Int} {T T' ty : TypeId} {pos : String} {af : Array Edge} {gd : Option (Nat × Bool)} {dd : Option Tmp} {ad : Addr} {k : Nat} {cs : List Value} {m : Nat}
variable {ρ ρ' ρ0 : Nat → Nat} {i j g e B : Nat} {α β : Type} {d : Kd α} {xs ys : List α} {v u : Value}
theorem r_lit_none {bytes : Nat} {z : Value} (i : Nat) (hT : P.underlying T = some (.slice e)) (he : El P e d.sz bytes z) (hw : Wd w0 ρ w) :
    ∃ v w', (execOp a.eval ⟨dd, .buildSlice T 0 #[], ty, pos, af, gd⟩).run P w = .ok (.value v) w' ∧ ∃ ρ', Wd w0 ρ' w' ∧ Ext ρ w ρ' w' ∧ Ow d e ρ' w' w0.heap.size i v [] := by
  have hr := run_buildSlice (P := P) (vs := []) (len := 0) (sz := d.sz) (res := []) hT he (by omega) (fun c hc => by
    have : c = #[] := Array.eq_empty_of_size_eq_zero (by simpa using hc)
    subst this
    rfl) w
  have hb : Below w.heap.size w (w.alloc (.cells ([] : List Value).toArray e)) := (Below.refl _ _).alloc (Nat.le_refl _) _
  refine ⟨.slice (some ⟨w.heap.size, 0, none⟩) 0 0, w.alloc (.cells ([] : List Value).toArray e), by simp [execOp, hr], ownr ρ w i, hw.new i hb, Ext.new i hb, ?_⟩
  exact lit_ow (d := d) (xs := []) (inner := []) (okp := fun _ => False) i hw ⟨by simp, fun t q ht => by simp at ht⟩ (by simp) (fun _ h => h.elim) (fun k hk => own_new hk)
theorem Ro.nil_or (h : Ro d w v xs) : ((∃ c, v = .slice none 0 c) ∧ xs = []) ∨ ∃ A c, v = .slice (some A) xs.length c := by
  obtain ⟨A, c, rfl, h2, h3⟩ := h
  cases A with
  | some A => exact .inr ⟨A, c, rfl⟩
  | none =>
    left
    have h0 : xs.length = 0 := by
      rcases Nat.eq_zero_or_pos xs.length with h | h
      · exact h
      · obtain ⟨_, he, _⟩ := h3.2.2 h
        cases he
    exact ⟨⟨c, by rw [h0]⟩, List.eq_nil_of_length_eq_zero h0⟩
theorem r_isnil (hf : Fr n a L) (hx : ev L x = some v) (hv : ∃ c, v = .slice none 0 c) (hy : ev L y = some (.slice none 0 0)) (hT : P.underlying T = some (.slice e)) :
    (execOp a.eval ⟨dd, .binOp .eql T x y T', ty, pos, af, gd⟩).run P w = .ok (.value (.bool true)) w := by
  obtain ⟨c, rfl⟩ := hv
  simp only [execOp, hf.ev hx, hf.ev hy]
  simp [eqGuard, binOp, Op.equal, Op.maxDepth, Go.Lib.run_equalIn_slice_nil w 9999 T e _ _ _ _ _ hT]
theorem r_nonil (hf : Fr n a L) (hx : ev L x = some v) (hv : ∃ A c, v = .slice (some A) m c) (hy : ev L y = some (.slice none 0 0)) (hT : P.underlying T = some (.slice e)) :
    (execOp a.eval ⟨dd, .binOp .eql T x y T', ty, pos, af, gd⟩).run P w = .ok (.value (.bool false)) w := by
  obtain ⟨A, c, rfl⟩ := hv
  simp only [execOp, hf.ev hx, hf.ev hy]
  simp [eqGuard, binOp, Op.equal, Op.maxDepth, Go.Lib.run_equalIn_slice_nil w 9999 T e _ _ _ _ _ hT]
/-- cells of a block that is i's -/
structure Co (ρ : Nat → Nat) (w : World) (i : Nat) (ad : Addr) (k : Nat) (cs : List Value) : Prop where
  cl : Cl w ad k cs
  lt : ad.block < w.heap.size
  own : ρ ad.block = i
theorem cell_block {w w' : World} (ad : Addr) (h : w'.heap[ad.block]? = w.heap[ad.block]?) : w'.cell? ad = w.cell? ad := by
  unfold World.cell?
  rw [h]
theorem Co.move {ρ ρ' : Nat → Nat} {w w' : World} {i : Nat} (h : Co ρ w i ad k cs) (hr : ρ' ad.block = ρ ad.block) (hs : w.heap.size ≤ w'.heap.size) (hb : w'.heap[ad.block]? = w.heap[ad.block]?) : Co ρ' w' i ad k cs :=
  ⟨fun j u hu => (cell_block (w := w) (w' := w') (ad.add (k + j)) (by
    have e : (ad.add (k + j)).block = ad.block := by
      unfold Addr.add
      split <;> rfl
    rw [e]
    exact hb)).trans (h.cl j u hu), Nat.lt_of_lt_of_le h.lt hs, hr.trans h.own⟩
theorem Co.ext (h : Co ρ w i ad k cs) (hE : Ext ρ w ρ' w') : Co ρ' w' i ad k cs := h.move (hE.rho _ h.lt) hE.below.size (hE.below.block _ h.lt)
theorem Co.adv (h : Co ρ w i ad k cs) (hA : Adv j ρ w ρ' w') (hne : i ≠ j) : Co ρ' w' i ad k cs := h.move (hA.rho _ h.lt) hA.size (hA.blk _ h.lt (by rw [h.own]; exact hne))
theorem Ow.el {d : Fl α} {xs : List α} (h : Ow (kf d) e ρ w B i v xs) (z : α) (h0 : 0 ≤ p) (h1 : p < xs.length) : ∃ ad c, v = .slice (some ad) xs.length c ∧ Co ρ w i ad (p.toNat * d.n) (d.enc (gl z xs p)) := by
  obtain ⟨ad, c, hv, hc⟩ := Ro.el d h.ro z h0 h1
  subst hv
  obtain ⟨g, cap, he, hb, hlt, cells, hcells⟩ := Kd.R_form h (by omega)
  injection he with e1 _ _
  injection e1 with e1
  subst e1
  exact ⟨_, c, rfl, hc, hlt, h.1 _ rfl⟩
/-- an element's cells in a slice v of one's own -/
structure Ce (ρ : Nat → Nat) (w : World) (i : Nat) (v : Value) (len : Nat) (ad : Addr) (k : Nat) (cs : List Value) : Prop where
  co : Co ρ w i ad k cs
  at_ : ∃ c, v = .slice (some ad) len c
theorem Ce.ext {len : Nat} (h : Ce ρ w i v len ad k cs) (hE : Ext ρ w ρ' w') : Ce ρ' w' i v len ad k cs := ⟨h.co.ext hE, h.at_⟩
theorem Ce.adv {len : Nat} (h : Ce ρ w i v len ad k cs) (hA : Adv j ρ w ρ' w') (hne : i ≠ j) : Ce ρ' w' i v len ad k cs := ⟨h.co.adv hA hne, h.at_⟩
theorem Ow.ce {d : Fl α} {xs : List α} (h : Ow (kf d) e ρ w B i v xs) (z : α) (h0 : 0 ≤ p) (h1 : p < xs.length) : ∃ ad, Ce ρ w i v xs.length ad (p.toNat * d.n) (d.enc (gl z xs p)) := by
  obtain ⟨ad, c, hv, hc⟩ := Ow.el h z h0 h1
  exact ⟨ad, hc, c, hv⟩
theorem r_store_ec {d : Fl α} {d' : Fl β} {off : Nat} {gt : α → β} {s : α → β → α} {b : β} {ag : Bool} {xs : List α} (z : α) (hw : Wd w0 ρ w) (hi : i ≠ 0) (hv : Ow (kf d) e ρ w w0.heap.size i v xs) (h0 : 0 ≤ p) (h1 : p < xs.length) (hl : Lens d d' off gt s) (hve : ∃ c, v = .slice (some ad) xs.length c) (hT : Ty P T d'.n ag)
    (hk : k = p.toNat * d.n + off) (hf : Fr n a L) (hx : ev L x = some (.pointer (some (ad.add k)))) (hy : ev L y = some u) (hu : u.cells.toList = d'.enc b) :
    ∃ w', (execOp a.eval ⟨dd, .store T x y, ty, pos, af, gd⟩).run P w = .ok .skip w' ∧ Wd w0 ρ w' ∧ Adv i ρ w ρ w' ∧ Ow (kf d) e ρ w' w0.heap.size i v (xs.set p.toNat (s (gl z xs p) b)) := by
  obtain ⟨c, hve⟩ := hve
  exact r_store_ek z hw hi hv h0 h1 hl hve hT hk hf hx hy hu
end Go.Proofs.YtB

/- Words of this seat's own: what a law's arguments hold: numbers, arrays, structs, slices, by their codes. -/
set_option linter.unusedVariables false
set_option linter.unusedSimpArgs false
set_option linter.unusedSectionVars false
namespace Go.Proofs.YtB
open Go Go.RowKit Go.ChangeShapes Go.WideShapes
open Go.Proofs.YtbhaeajdabgnhaaW.PrintWords
variable {H : Type} {encd : TypeId × Value → H} {P : Program} {w : World} {base : Nat} {spare : Nat → Bool} {held : Bool} {α β γ : Type} {t e : TypeId}
/-- what reads as type t is a code of d's, of a value that 'ok' holds of -/
def Rd (P : Program) (t : TypeId) (d : Fl α) (ok : α → Prop) : Prop :=
  ∀ {H : Type} {encd : TypeId × Value → H} {w : World} {base : Nat} {spare : Nat → Bool} {held : Bool} {fuel : Nat} {cs : List Value} {x : DataW H × List MemPlace}, DataW.trod encd P w base spare held fuel t cs = some x → ∃ a, cs = d.enc a ∧ ok a
theorem Rd.u8 (ht : P.underlying t = some (.int .u8)) : Rd P t fU8 (fun _ => True) := by
  intro H encd w base spare held fuel cs x h
  obtain ⟨n, rfl, _, hw⟩ := DataW.trod_int ht h
  have hb : 0 ≤ n ∧ n ≤ 255 := by
    simp only [Lit.wf, Bool.and_eq_true, decide_eq_true_eq] at hw
    have h1 : IntKind.min .u8 = 0 := by rfl
    have h2 : IntKind.max .u8 = 255 := by rfl
    rw [h1, h2] at hw
    exact hw
  refine ⟨UInt8.ofNat n.toNat, ?_, trivial⟩
  have : ((UInt8.ofNat n.toNat).toNat : Int) = n := by
    rw [UInt8.toNat_ofNat']
    omega
  show [Value.int .u8 n] = [Value.int .u8 ((UInt8.ofNat n.toNat).toNat : Int)]
  rw [this]
theorem Rd.i64 (ht : P.underlying t = some (.int .i64)) : Rd P t fI64 (fun n => -9223372036854775808 ≤ n ∧ n ≤ 9223372036854775807) := by
  intro H encd w base spare held fuel cs x h
  obtain ⟨n, rfl, _, hw⟩ := DataW.trod_int ht h
  refine ⟨n, rfl, ?_⟩
  simp only [Lit.wf, Bool.and_eq_true, decide_eq_true_eq] at hw
  have h1 : IntKind.min .i64 = -9223372036854775808 := by rfl
  have h2 : IntKind.max .i64 = 9223372036854775807 := by rfl
  rw [h1, h2] at hw
  exact hw
theorem chunks (d : Fl α) : ∀ (l : List α) (cs : List Value), cs.length = l.length * d.n → (∀ i, (h : i < l.length) → (cs.drop (i * d.n)).take d.n = d.enc l[i]) → cs = l.flatMap d.enc
  | [], cs, h, _ => by
    have : cs = [] := List.eq_nil_of_length_eq_zero (by simpa using h)
    simp [this]
  | x :: l, cs, h, hi => by
    have h0 := hi 0 (by simp)
    simp only [Nat.zero_mul, List.drop_zero, List.getElem_cons_zero] at h0
    have hl : (cs.drop d.n).length = l.length * d.n := by
      rw [List.length_drop, h, List.length_cons, Nat.succ_mul]
      omega
    have := chunks d l (cs.drop d.n) hl (fun i hlt => by
      have := hi (i + 1) (by simpa using hlt)
      rw [Nat.succ_mul, Nat.add_comm, ← List.drop_drop] at this
      simpa using this)
    rw [List.flatMap_cons, ← this, ← h0, List.take_append_drop]
theorem pick_list {Q : Nat → α → Prop} : ∀ (n : Nat), (∀ i, i < n → ∃ a, Q i a) → ∃ l : List α, l.length = n ∧ ∀ i, (h : i < l.length) → Q i l[i]
  | 0, _ => ⟨[], rfl, fun i h => by cases h⟩
  | n + 1, h => by
    obtain ⟨l, hl, hq⟩ := pick_list n (fun i hi => h i (by omega))
    obtain ⟨a, ha⟩ := h n (by omega)
    refine ⟨l ++ [a], by simp [hl], fun i hi => ?_⟩
    rcases Nat.lt_or_ge i l.length with h1 | h1
    · rw [List.getElem_append_left h1]
      exact hq i h1
    · have : i = n := by
        simp at hi
        omega
      subst this
      rw [List.getElem_append_right h1]
      simpa [hl] using ha
/-- a struct of three -/
theorem Rd.three {f0 f1 f2 : Field} {d : Fl α} {ok : α → Prop} (hT : P.underlying t = some (.struct #[f0, f1, f2])) (ht : f0.type = e ∧ f1.type = e ∧ f2.type = e) (ho : f0.offset = 0 ∧ f1.offset = d.n ∧ f2.offset = d.n + d.n) (hc : P.cellsOf e = d.n) (hct : P.cellsOf t = 3 * d.n) (he : Rd P e d ok) :
    Rd P t (fPair d (fPair d d)) (fun v => ok v.1 ∧ ok v.2.1 ∧ ok v.2.2) := by
  intro H encd w base spare held fuel cs x h
  obtain ⟨xs, n, _, _, hl, hx, hi⟩ := DataW.trod_struct hT h
  have hx3 : xs.length = 3 := by simpa using hx
  have g0 := hi 0 f0 rfl
  have g1 := hi 1 f1 rfl
  have g2 := hi 2 f2 rfl
  rw [List.getElem?_eq_getElem (by omega), ht.1, ho.1, hc] at g0
  rw [List.getElem?_eq_getElem (by omega), ht.2.1, ho.2.1, hc] at g1
  rw [List.getElem?_eq_getElem (by omega), ht.2.2, ho.2.2, hc] at g2
  obtain ⟨a, ea, oa⟩ := he g0
  obtain ⟨b, eb, ob⟩ := he g1
  obtain ⟨c, ec, oc⟩ := he g2
  refine ⟨(a, b, c), ?_, oa, ob, oc⟩
  have := chunks d [a, b, c] cs (by rw [hl, hct]; rfl) (fun i hi => by
    match i, hi with
    | 0, _ => simpa using ea
    | 1, _ => simpa using eb
    | 2, _ => simpa [Nat.succ_mul] using ec)
  simpa [fPair] using this
/-- a slice of what has a code -/
theorem Rd.slice {d : Fl α} {ok : α → Prop} (hT : P.underlying t = some (.slice e)) (hc : P.cellsOf e = d.n) (he : Rd P e d ok) {fuel : Nat} {v : Value} {x : DataW H × List MemPlace} (h : DataW.trod encd P w base spare held fuel t [v] = some x) :
    ∃ xs : List α, Ro (kf d) w v xs ∧ ∀ a ∈ xs, ok a := by
  rcases DataW.trod_slice hT h with ⟨h1, _⟩ | ⟨a, len, cap, elems, rest, n, _, h1, _, _, hlc, hcap, hel, hi, _, _⟩
  · injection h1 with h1 _
    subst h1
    exact ⟨[], Ro.nil _ _ _, fun a h => by cases h⟩
  · injection h1 with h1 _
    subst h1
    rw [hc] at hi
    obtain ⟨l, hll, hq⟩ := pick_list (Q := fun i b => (∀ j, j < d.n → w.cell? ((a.add (i * d.n)).add j) = (d.enc b)[j]?) ∧ ok b) len (fun i hil => by
      have h2 := hi i hil
      rw [List.getElem?_eq_getElem (by omega)] at h2
      obtain ⟨cs, hcs, h3⟩ := Option.bind_eq_some_iff.1 h2
      obtain ⟨b, rfl, hb⟩ := he h3
      obtain ⟨_, _, h4⟩ := World.cells?_some hcs
      exact ⟨b, h4, hb⟩)
    have hcap' : cap ≤ 9223372036854775807 := hcap
    refine ⟨l, ⟨some a, cap, by rw [hll], by omega, rfl, by omega, fun _ => ⟨a, rfl, fun j p hj => ?_⟩⟩, fun b hb => ?_⟩
    · obtain ⟨hjl, rfl⟩ := List.getElem?_eq_some_iff.1 hj
      refine ⟨d.enc l[j], d.len _, rfl, fun i u hu => ?_⟩
      have hi' : i < d.n := by
        have := (List.getElem?_eq_some_iff.1 hu).1
        rwa [d.len] at this
      have := (hq j hjl).1 i hi'
      rw [hu, Go.Addr.add_add] at this
      exact this
    · obtain ⟨j, hj, rfl⟩ := List.getElem_of_mem hb
      exact (hq j hj).2
end Go.Proofs.YtB

/- Words of this seat's own: a slice of one's own, cut short, cleared from a place on. -/
set_option linter.unusedVariables false
set_option linter.unusedSimpArgs false
set_option linter.unusedSectionVars false
namespace Go.Proofs.YtB
open Go Go.RowKit
open Go.Proofs.YtbhaeajdabgnhaaW.PrintWords
variable {P : Program} {n : Nat} {a : Act} {L : List (Nat × Value)} {w w' w0 ws : World} {Q : Exit → Act → World → Prop} {ops : Array Oper} {rest : List Oper} {o : Oper}
variable {x y : Operand} {p q : Int} {T T' ty : TypeId} {pos : String} {af : Array Edge} {gd : Option (Nat × Bool)} {dd : Option Tmp} {ad : Addr} {k : Nat} {cs : List Value} {m : Nat}
variable {ρ ρ' ρ0 : Nat → Nat} {i j g e B : Nat} {α β : Type} {d : Kd α} {xs ys : List α} {v u : Value}
def cutV (v : Value) (lo hi sz : Nat) : Value := match v with
  | .slice A _ c => .slice (if c = lo then A else A.map (·.add (lo * sz))) (hi - lo) (c - lo)
  | v => v
theorem r_cut_v {sz : Nat} {ol oh : Option Operand} {lo hi : Int} (hT : P.underlying T = some (.slice e)) (hs : (P.info? e).map (·.size) = some sz) (hd : d.sz = sz) (hv : Ro d w v xs) (hf : Fr n a L) (hx : ev L x = some v)
    (hl : (ol = none ∧ lo = 0) ∨ (∃ z, ol = some z ∧ ev L z = some (.int .i64 lo))) (hh : (oh = none ∧ hi = xs.length) ∨ (∃ z, oh = some z ∧ ev L z = some (.int .i64 hi))) (h0 : 0 ≤ lo) (h1 : lo ≤ hi) (h2 : hi ≤ xs.length) :
    (execOp a.eval ⟨dd, .slice T x ol oh none, ty, pos, af, gd⟩).run P w = .ok (.value (cutV v lo.toNat hi.toNat sz)) w := by
  obtain ⟨lo, rfl⟩ := Int.eq_ofNat_of_zero_le h0
  obtain ⟨hi, rfl⟩ := Int.eq_ofNat_of_zero_le (show 0 ≤ hi by omega)
  obtain ⟨A, c, rfl, hc, hC⟩ := hv
  have hl' : (ol.map a.eval = none ∧ lo = 0) ∨ ol.map a.eval = some (.int .i64 (lo : Int)) := by
    rcases hl with ⟨rfl, h⟩ | ⟨z, rfl, h⟩
    · exact .inl ⟨rfl, by omega⟩
    · exact .inr (by simp [hf.ev h])
  have hh' : (oh.map a.eval = none ∧ hi = xs.length) ∨ oh.map a.eval = some (.int .i64 (hi : Int)) := by
    rcases hh with ⟨rfl, h⟩ | ⟨z, rfl, h⟩
    · exact .inl ⟨rfl, by omega⟩
    · exact .inr (by simp [hf.ev h])
  have hr := cut_run (P := P) (A := A) (c := c) hT hs hl' hh' (by omega) (by omega) hc w
  simp only [execOp, hf.ev hx, Option.map_none, Sem.run_bind, hr, Result.andThen_ok, Sem.run_pure, Int.toNat_natCast]
  rfl
theorem ro_cutV {lo hi : Int} (hv : Ro d w v xs) (h0 : 0 ≤ lo) (h1 : lo ≤ hi) (h2 : hi ≤ xs.length) : Ro d w (cutV v lo.toNat hi.toNat d.sz) ((xs.take hi.toNat).drop lo.toNat) := by
  obtain ⟨A, c, rfl, hc, hC⟩ := hv
  exact ro_cut ⟨A, c, rfl, hc, hC⟩ (by omega) (by omega)
/-- the first k of one's own are one's own -/
theorem Ow.take {hi : Int} (h : Ow d e ρ w B i v xs) (h0 : 0 ≤ hi) (h1 : hi ≤ xs.length) (sz : Nat) : Ow d e ρ w B i (cutV v 0 hi.toNat sz) (xs.take hi.toNat) := by
  obtain ⟨k, rfl⟩ := Int.eq_ofNat_of_zero_le h0
  simp only [Int.toNat_natCast]
  have hk : k ≤ xs.length := by omega
  obtain ⟨hown, inner, ho, hr⟩ := h
  rcases ho.2 with ⟨rfl, h3⟩ | ⟨g, cap, cur, rfl, hb, hh, hnc, hcap, hcs, htk⟩
  · have : xs = [] := List.eq_nil_of_length_eq_zero h3
    subst this
    have hk0 : k = 0 := by simpa using hk
    subst hk0
    exact Ow.nil d e ρ w B i
  · have hv : cutV (.slice (some ⟨g, 0, none⟩) xs.length cap) 0 k sz = .slice (some ⟨g, 0, none⟩) k cap := by
      simp [cutV, Addr.add]
    rw [hv]
    have hl : (xs.take k).length = k := by simp; omega
    have hm : k * d.sz ≤ xs.length * d.sz := Nat.mul_le_mul_right _ hk
    refine ⟨fun b hb' => hown b (by simpa [Value.ownBlock] using hb'), inner.take (k * d.sz), ⟨by rw [List.length_take, hr.1, hl]; omega, .inr ⟨g, cap, cur, by rw [hl], hb, hh, by omega, hcap, hcs, ?_⟩⟩, ?_, fun j p hj => ?_⟩
    · rw [hl, ← htk, List.take_take, Nat.min_eq_left hm]
    · rw [List.length_take, hr.1, hl]; omega
    · rw [List.getElem?_take] at hj
      split at hj
      · rename_i hjk
        have h5 : j * d.sz + d.sz ≤ k * d.sz := by rw [← Nat.succ_mul]; exact Nat.mul_le_mul_right _ hjk
        have h6 := hr.2 j p hj
        rw [List.drop_take, List.take_take, Nat.min_eq_left (by omega)]
        exact h6
      · cases hj
end Go.Proofs.YtB

/- Words of this seat's own: a slice whose elements are rows of the call's own that are turned in place: the outer slice holds references, each row is an own slice with a label of its own. -/
set_option linter.unusedVariables false
set_option linter.unusedSimpArgs false
set_option linter.unusedSectionVars false
namespace Go.Proofs.YtB
open Go Go.RowKit
open Go.Proofs.YtbhaeajdabgnhaaW.PrintWords
variable {P : Program} {n : Nat} {a : Act} {L : List (Nat × Value)} {w w' w0 ws : World} {Q : Exit → Act → World → Prop} {ops : Array Oper} {rest : List Oper} {o : Oper}
variable {x y : Operand} {p q : Int} {T T' ty : TypeId} {pos : String} {af : Array Edge} {gd : Option (Nat × Bool)} {dd : Option Tmp} {ad : Addr} {k : Nat} {cs : List Value} {m : Nat}
variable {ρ ρ' ρ0 : Nat → Nat} {i j g e e' B : Nat} {α β : Type} {xs ys : List α} {v u : Value}
abbrev V1 := {v : Value // v.oneCell' = true}
def fRef (f : Nat → V1) : Fl Nat := ⟨1, fun r => [(f r).1], fun _ => rfl, fun r u hu => by rw [List.mem_singleton.1 hu]; exact (f r).2⟩
/-- the label of row r of the grid i -/
def lab (i r : Nat) : Nat := 1000 * (r + 1) + i
structure Gd (d : Fl α) (e' e : Nat) (ρ : Nat → Nat) (w : World) (B i : Nat) (v : Value) (f : Nat → V1) (idx : List Nat) (rows : List (List α)) : Prop where
  out : Ow (kf (fRef f)) e ρ w B i v idx
  row : ∀ r xs, rows[r]? = some xs → Ow (kf d) e' ρ w B (lab i r) (f r).1 xs
  lt : ∀ r, r ∈ idx → r < rows.length
  small : 0 < i ∧ i < 1000
/-- the rows as the slice reads -/
def gi (idx : List Nat) (rows : List (List α)) : List (List α) := idx.map fun r => rows.getD r []
variable {d : Fl α} {f f' : Nat → V1} {idx : List Nat} {rows : List (List α)}
theorem gi_len : (gi idx rows).length = idx.length := by simp [gi]
theorem getD_some {r : Nat} (h : r < rows.length) : rows[r]? = some (rows.getD r []) := by
  rw [List.getD_eq_getElem?_getD, List.getElem?_eq_getElem h]; rfl
theorem Gd.rowAt (h : Gd d e' e ρ w B i v f idx rows) {r : Nat} (hr : r < rows.length) : Ow (kf d) e' ρ w B (lab i r) (f r).1 (rows.getD r []) := h.row r _ (getD_some hr)
theorem Ow.one {d : Kd α} (h : Ow d e ρ w B i v xs) : v.oneCell' = true := h.ro.one
theorem lab_ne (h : i < 1000) (r : Nat) : lab i r ≠ i := by unfold lab; omega
theorem Gd.adv (h : Gd d e' e ρ w B i v f idx rows) (hA : Adv j ρ w ρ' w') (h1 : i ≠ j) (h2 : ∀ r, lab i r ≠ j) : Gd d e' e ρ' w' B i v f idx rows :=
  ⟨h.out.adv hA h1, fun r xs hr => (h.row r xs hr).adv hA (h2 r), h.lt, h.small⟩
theorem Gd.ext (h : Gd d e' e ρ w B i v f idx rows) (hE : Ext ρ w ρ' w') : Gd d e' e ρ' w' B i v f idx rows :=
  ⟨h.out.ext hE, fun r xs hr => (h.row r xs hr).ext hE, h.lt, h.small⟩
theorem Gd.tr (h : Gd d e' e ρ w B i v f idx rows) (h1 : Tr i ρ w ρ' w') (h2 : ∀ r, Tr (lab i r) ρ w ρ' w') : Gd d e' e ρ' w' B i v f idx rows :=
  ⟨h.out.tr h1, fun r xs hr => (h.row r xs hr).tr (h2 r), h.lt, h.small⟩
theorem Gd.ro (h : Gd d e' e ρ w B i v f idx rows) : Ro (Kd.slice e' (kf d)) w v (gi idx rows) := by
  obtain ⟨A, c, hv, hc, hC⟩ := h.out.ro
  refine ⟨A, c, by rw [gi_len]; exact hv, by rw [gi_len]; exact hc, rfl, by rw [gi_len]; exact hC.2.1, fun hn => ?_⟩
  obtain ⟨ad, hA, hel⟩ := hC.2.2 (by rwa [gi_len] at hn)
  refine ⟨ad, hA, fun j p hj => ?_⟩
  simp only [gi, List.getElem?_map, Option.map_eq_some_iff] at hj
  obtain ⟨r, hr, rfl⟩ := hj
  obtain ⟨c', h1, h2, h3⟩ := hel j r hr
  have h2' : c' = [(f r).1] := h2
  subst h2'
  have hrl := h.lt r (List.mem_of_getElem? hr)
  obtain ⟨A', c'', hu, hl, hC'⟩ := (h.rowAt hrl).ro
  exact ⟨_, rfl, ⟨A', c'', by rw [hu], hl, hC'⟩, h3⟩
theorem Gd.fresh (h : Gd d e' e ρ w w0.heap.size i v f idx rows) : Fresh (Kd.slice e' (kf d)) e w0 w v (gi idx rows) := by
  obtain ⟨hown, inner, ho, hr⟩ := h.out
  refine ⟨fun _ _ => trivial, inner, by rw [gi_len]; exact ho, by rw [gi_len]; exact hr.1, fun j p hj => ?_⟩
  simp only [gi, List.getElem?_map, Option.map_eq_some_iff] at hj
  obtain ⟨r, hr', rfl⟩ := hj
  have h2 : (inner.drop (j * 1)).take 1 = [(f r).1] := hr.2 j r hr'
  have hrl := h.lt r (List.mem_of_getElem? hr')
  refine ⟨(f r).1, h2, Kd.R_mono (h.rowAt hrl) (fun k hk => ⟨trivial, fun he => ?_⟩)⟩
  have h7 : ρ k = i := hown k he.symm
  exact lab_ne h.small.2 r (hk.symm.trans h7)
theorem Gd.empty {dd : Kd β} (h : Ow dd e ρ w B i v []) (hs : dd.sz = 1) (hi : 0 < i ∧ i < 1000) (f : Nat → V1) : Gd d e' e ρ w B i v f [] [] := by
  refine ⟨⟨h.1, ?_⟩, fun r xs hr => by simp at hr, fun r hr => by simp at hr, hi⟩
  obtain ⟨inner, ho, hr⟩ := h.2
  have hin : inner = [] := by have := hr.1; simpa using this
  subst hin
  refine ⟨[], ?_, rfl, fun j p hj => by simp at hj⟩
  show World.ownsRow w B e 1 v _ _
  rw [← hs]
  exact ho
/-- the same cells, told by another code -/
theorem Ow.recode {f f' : Nat → V1} (h : Ow (kf (fRef f)) e ρ w B i v idx) {idx' : List Nat} (he : idx.map (fun r => (f r).1) = idx'.map fun r => (f' r).1) : Ow (kf (fRef f')) e ρ w B i v idx' := by
  have hl : idx.length = idx'.length := by have := congrArg List.length he; simpa using this
  obtain ⟨hown, inner, ho, hr⟩ := h
  refine ⟨hown, inner, by rw [← hl]; exact ho, by rw [← hl]; exact hr.1, fun j p hj => ?_⟩
  have h1 := congrArg (fun l => l[j]?) he
  simp only [List.getElem?_map, hj, Option.map_some] at h1
  obtain ⟨r, hr', h2⟩ := Option.map_eq_some_iff.1 h1
  have h3 : (inner.drop (j * 1)).take 1 = [(f r).1] := hr.2 j r hr'
  show (inner.drop (j * 1)).take 1 = [(f' p).1]
  rw [h3, h2]
def upd (f : Nat → V1) (n : Nat) (u : V1) : Nat → V1 := fun r => if r = n then u else f r
theorem upd_old {u : V1} {r n : Nat} (h : r < n) : upd f n u r = f r := by unfold upd; rw [if_neg (by omega)]
theorem upd_new {u : V1} {n : Nat} : upd f n u n = u := by unfold upd; rw [if_pos rfl]
/-- the label j is b's from now on -/
def relab (ρ : Nat → Nat) (j b : Nat) : Nat → Nat := fun k => if ρ k = j then b else ρ k
theorem Wd.relab (hw : Wd w0 ρ w) (hj : j ≠ 0) (b : Nat) : Wd w0 (relab ρ j b) w := ⟨hw.below, fun k hk => by
  refine hw.own k (fun h0 => hk ?_)
  unfold YtB.relab
  rw [if_neg (by rw [h0]; exact Ne.symm hj)]
  exact h0⟩
theorem Tr.relab {b c : Nat} (hc : c ≠ j) : Tr c ρ w (relab ρ j b) w := fun k hk h => ⟨by unfold YtB.relab; rw [if_neg (by rw [h]; exact hc)]; exact h, rfl⟩
theorem Ow.relab {d : Kd α} (h : Ow d e ρ w B j v xs) (b : Nat) : Ow d e (relab ρ j b) w B b v xs := Kd.R_mono h (fun k hk => by unfold YtB.relab; rw [if_pos hk])
theorem Tr.of_adv {b : Nat} (hA : Adv i ρ w ρ' w') (hb : b ≠ i) : Tr b ρ w ρ' w' := fun k hk h => ⟨(hA.rho k hk).trans h, hA.blk k hk (by rw [h]; exact hb)⟩
theorem Tr.trans {b : Nat} {ρ2 : Nat → Nat} {w2 : World} (hs : w.heap.size ≤ w'.heap.size) (h1 : Tr b ρ w ρ' w') (h2 : Tr b ρ' w' ρ2 w2) : Tr b ρ w ρ2 w2 := fun k hk h => by
  obtain ⟨a1, a2⟩ := h1 k hk h
  obtain ⟨b1, b2⟩ := h2 k (Nat.lt_of_lt_of_le hk hs) a1
  exact ⟨b1, b2.trans a2⟩
/-- a row of the call's own (j's) becomes a row of the grid -/
theorem Gd.take_in (hrow : ∀ r xs, rows[r]? = some xs → Ow (kf d) e' ρ w B (lab i r) (f r).1 xs) (hs : 0 < i ∧ i < 1000) (hj : Ow (kf d) e' ρ w B j u xs) (hij : i ≠ j) (hlj : ∀ r, lab i r ≠ j) {v' : Value} {idx' : List Nat} {hu : u.oneCell' = true}
    (hO : Ow (kf (fRef (upd f rows.length ⟨u, hu⟩))) e ρ w B i v' idx') (hlt : ∀ r, r ∈ idx' → r < rows.length + 1) :
    Gd d e' e (relab ρ j (lab i rows.length)) w B i v' (upd f rows.length ⟨u, hu⟩) idx' (rows ++ [xs]) := by
  refine ⟨hO.tr (Tr.relab hij), fun r ys hr => ?_, fun r hr => by rw [List.length_append]; exact hlt r hr, hs⟩
  rcases Nat.lt_trichotomy r rows.length with h | h | h
  · rw [List.getElem?_append_left h] at hr
    rw [upd_old h]
    exact (hrow r ys hr).tr (Tr.relab (hlj r))
  · subst h
    have : xs = ys := by simpa using hr
    subst this
    rw [upd_new]
    exact hj.relab _
  · rw [List.getElem?_eq_none (by simp; omega)] at hr
    cases hr
theorem recode_upd (hG : Gd d e' e ρ w B i v f idx rows) {u : V1} : Ow (kf (fRef (upd f rows.length u))) e ρ w B i v idx :=
  hG.out.recode (List.map_congr_left fun r hr => by rw [upd_old (hG.lt r hr)])
theorem Gd.rows_adv (hG : Gd d e' e ρ w B i v f idx rows) (hA : Adv i ρ w ρ' w') : ∀ r xs, rows[r]? = some xs → Ow (kf d) e' ρ' w' B (lab i r) (f r).1 xs :=
  fun r xs hr => (hG.row r xs hr).adv hA (lab_ne hG.small.2 r)
/-- append(grid, []T{row}): the literal is lv -/
theorem r_gapp {lv : Value} {bytes c : Nat} {z : Value} {hu : u.oneCell' = true} (hT : P.underlying T = some (.slice e)) (he : El P e 1 bytes z) (hw : Wd w0 ρ w) (hj0 : j ≠ 0) (hij : i ≠ j) (hlj : ∀ r, lab i r ≠ j)
    (hG : Gd d e' e ρ w w0.heap.size i v f idx rows) (hL : Ow (kf (fRef fun _ => ⟨u, hu⟩)) e ρ w w0.heap.size c lv [0]) (hj : Ow (kf d) e' ρ w w0.heap.size j u xs)
    (hl : (idx.length + 1) * bytes ≤ 140737488355328) (hf : Fr n a L) (hx : ev L x = some v) (hy : ev L y = some lv) :
    ∃ v1 w1, (execOp a.eval ⟨dd, .call ⟨.builtin .append, #[x, y], #[T, T]⟩, ty, pos, af, gd⟩).run P w = .ok (.value v1) w1 ∧ ∃ f' ρ', Wd w0 ρ' w1 ∧ (∀ b, b ≠ i → b ≠ j → Tr b ρ w ρ' w1) ∧
      Gd d e' e ρ' w1 w0.heap.size i v1 f' (idx ++ [rows.length]) (rows ++ [xs]) ∧ (∀ r, r < rows.length → (f r).1 = (f' r).1) ∧ u = (f' rows.length).1 := by
  have hO := recode_upd hG (u := ⟨u, hu⟩)
  have hLr : Ro (kf (fRef (upd f rows.length ⟨u, hu⟩))) w lv [rows.length] := (hL.recode (f' := upd f rows.length ⟨u, hu⟩) (idx' := [rows.length]) (by simp [upd_new])).ro
  obtain ⟨v1, w1, hr, ρ1, h1, h2, h3⟩ := r_append (dd := dd) (ty := ty) (pos := pos) (af := af) (gd := gd) (d := fRef (upd f rows.length ⟨u, hu⟩)) hT he hw (by have := hG.small; omega) hO hLr (by simpa using hl) hf hx hy
  refine ⟨v1, w1, hr, _, relab ρ1 j (lab i rows.length), h1.relab hj0 _, fun b hbi hbj => (Tr.of_adv h2 hbi).trans h2.size (Tr.relab hbj), Gd.take_in (hG.rows_adv h2) hG.small (hj.adv h2 (Ne.symm hij)) hij hlj h3 (fun r hr => ?_), fun r hr => by rw [upd_old hr], by rw [upd_new]⟩
  rcases List.mem_append.1 hr with h | h
  · have := hG.lt r h; omega
  · have := List.mem_singleton.1 h; omega
theorem Gd.lt_gl (hG : Gd d e' e ρ w B i v f idx rows) (h0 : 0 ≤ p) (h1 : p < idx.length) : gl 0 idx p < rows.length := by
  refine hG.lt _ ?_
  have hp : p.toNat < idx.length := by omega
  unfold gl
  rw [List.getD_eq_getElem?_getD, List.getElem?_eq_getElem hp]
  exact List.getElem_mem hp
theorem lt_of_len {r : Nat} (h0 : 0 ≤ p) (h1 : p < ((rows.getD r []).length : Int)) : r < rows.length := by
  rcases Nat.lt_or_ge r rows.length with h | h
  · exact h
  · rw [List.getD_eq_getElem?_getD, List.getElem?_eq_none h] at h1
    simp at h1
    omega
theorem mem_set' {l : List Nat} {k r y : Nat} (h : y ∈ l.set k r) : y = r ∨ y ∈ l := by
  rcases List.mem_or_eq_of_mem_set h with h | h
  · exact .inr h
  · exact .inl h
/-- grid[p] = a row of the grid -/
theorem r_gset {r : Nat} (hw : Wd w0 ρ w) (hG : Gd d e' e ρ w w0.heap.size i v f idx rows) (hr : r < rows.length) (h0 : 0 ≤ p) (h1 : p < idx.length) (hve : ∃ c, v = .slice (some ad) idx.length c) (hT : Ty P T 1 false)
    (hk : k = p.toNat * 1 + 0) (hf : Fr n a L) (hx : ev L x = some (.pointer (some (ad.add k)))) (hy : ev L y = some (f r).1) :
    ∃ w', (execOp a.eval ⟨dd, .store T x y, ty, pos, af, gd⟩).run P w = .ok .skip w' ∧ Wd w0 ρ w' ∧ Adv i ρ w ρ w' ∧ Gd d e' e ρ w' w0.heap.size i v f (idx.set p.toNat r) rows := by
  have hi : i ≠ 0 := by have := hG.small; omega
  obtain ⟨w', h2, h3, h4, h5⟩ := r_store_ec (dd := dd) (ty := ty) (pos := pos) (af := af) (gd := gd) (b := r) (0 : Nat) hw hi hG.out h0 h1 (Lens.id (fRef f)) hve hT hk hf hx hy (hG.rowAt hr).ro.cells1
  refine ⟨w', h2, h3, h4, h5, hG.rows_adv h4, fun y hy => ?_, hG.small⟩
  rcases mem_set' hy with rfl | h
  · exact hr
  · exact hG.lt y h
/-- grid[p] = a row of the call's own, j's -/
theorem r_gput (hw : Wd w0 ρ w) (hj0 : j ≠ 0) (hij : i ≠ j) (hlj : ∀ r, lab i r ≠ j) (hG : Gd d e' e ρ w w0.heap.size i v f idx rows) (hj : Ow (kf d) e' ρ w w0.heap.size j u xs) (h0 : 0 ≤ p) (h1 : p < idx.length) (hve : ∃ c, v = .slice (some ad) idx.length c) (hT : Ty P T 1 false)
    (hk : k = p.toNat * 1 + 0) (hf : Fr n a L) (hx : ev L x = some (.pointer (some (ad.add k)))) (hy : ev L y = some u) :
    ∃ w', (execOp a.eval ⟨dd, .store T x y, ty, pos, af, gd⟩).run P w = .ok .skip w' ∧ ∃ f' ρ', Wd w0 ρ' w' ∧ (∀ b, b ≠ i → b ≠ j → Tr b ρ w ρ' w') ∧
      Gd d e' e ρ' w' w0.heap.size i v f' (idx.set p.toNat rows.length) (rows ++ [xs]) ∧ (∀ r, r < rows.length → (f r).1 = (f' r).1) ∧ u = (f' rows.length).1 := by
  have hi : i ≠ 0 := by have := hG.small; omega
  have hu : u.oneCell' = true := hj.one
  have hO := recode_upd hG (u := ⟨u, hu⟩)
  obtain ⟨w', h2, h3, h4, h5⟩ := r_store_ec (dd := dd) (ty := ty) (pos := pos) (af := af) (gd := gd) (d := fRef (upd f rows.length ⟨u, hu⟩)) (b := rows.length) (0 : Nat) hw hi hO h0 h1 (Lens.id (fRef _)) hve hT hk hf hx hy (by
    show _ = [(upd f rows.length ⟨u, hu⟩ rows.length).1]
    rw [upd_new]
    exact hj.ro.cells1)
  refine ⟨w', h2, _, relab ρ j (lab i rows.length), h3.relab hj0 _, fun b hbi hbj => (Tr.of_adv h4 hbi).trans h4.size (Tr.relab hbj), Gd.take_in (hG.rows_adv h4) hG.small (hj.adv h4 (Ne.symm hij)) hij hlj h5 (fun r hr => ?_), fun r hr => by rw [upd_old hr], by rw [upd_new]⟩
  rcases mem_set' hr with rfl | h
  · omega
  · have := hG.lt r h; omega
/-- a store into a row of the grid -/
theorem r_gcell {β : Type} {d' : Fl β} {off r : Nat} {gt : α → β} {s : α → β → α} {b : β} {ag : Bool} (z : α) (hw : Wd w0 ρ w) (hG : Gd d e' e ρ w w0.heap.size i v f idx rows) (h0 : 0 ≤ p) (h1 : p < ((rows.getD r []).length : Int)) (hl : Lens d d' off gt s) (hve : ∃ c, (f r).1 = .slice (some ad) (rows.getD r []).length c) (hT : Ty P T d'.n ag)
    (hk : k = p.toNat * d.n + off) (hf : Fr n a L) (hx : ev L x = some (.pointer (some (ad.add k)))) (hy : ev L y = some u) (hu : u.cells.toList = d'.enc b) :
    ∃ w', (execOp a.eval ⟨dd, .store T x y, ty, pos, af, gd⟩).run P w = .ok .skip w' ∧ Wd w0 ρ w' ∧ Adv (lab i r) ρ w ρ w' ∧ Gd d e' e ρ w' w0.heap.size i v f idx (rows.set r ((rows.getD r []).set p.toNat (s (gl z (rows.getD r []) p) b))) := by
  have hr := lt_of_len h0 h1
  obtain ⟨w', h2, h3, h4, h5⟩ := r_store_ec (dd := dd) (ty := ty) (pos := pos) (af := af) (gd := gd) z hw (by unfold lab; omega) (hG.rowAt hr) h0 h1 hl hve hT hk hf hx hy hu
  refine ⟨w', h2, h3, h4, hG.out.adv h4 (Ne.symm (lab_ne hG.small.2 r)), fun t xs ht => ?_, fun y hy => by rw [List.length_set]; exact hG.lt y hy, hG.small⟩
  by_cases htr : r = t
  · subst htr
    rw [List.getElem?_set_self hr] at ht
    injection ht with ht
    subst ht
    exact h5
  · rw [List.getElem?_set_ne htr] at ht
    exact (hG.row t xs ht).adv h4 (by unfold lab; omega)
end Go.Proofs.YtB

/- Words of this seat's own: short forms for the printed texts. -/
set_option linter.unusedVariables false
set_option linter.unusedSimpArgs false
set_option linter.unusedSectionVars false
namespace Go.Proofs.YtB
open Go Go.RowKit
open Go.Proofs.YtbhaeajdabgnhaaW.PrintWords
variable {P : Program} {n : Nat} {a : Act} {L : List (Nat × Value)} {w w' w0 ws : World} {Q : Exit → Act → World → Prop} {ops : Array Oper} {rest : List Oper} {o : Oper}
abbrev vI (x : Int) : Value := .int .i64 x
abbrev vB (x : UInt8) : Value := .int .u8 (x.toNat : Int)
theorem s_ {d : Nat} {v : Value} (hf : Fr n a L) (hr : (execOp a.eval o).run P w = .ok (.value v) w')
    (h : ∀ a', Fr n a' ((d, v) :: L) → wpList P ops Q rest a' w') (hg : o.guard = none := by rfl) (hd : o.dst = some d := by rfl) (hn : d < n := by decide) : wpList P ops Q (o :: rest) a w :=
  st hf hg hd hn hr h
theorem sx_ {d : Nat} {Φ : Value → World → Prop} (hf : Fr n a L) (hr : ∃ v w', (execOp a.eval o).run P w = .ok (.value v) w' ∧ Φ v w')
    (h : ∀ a' v w', Fr n a' ((d, v) :: L) → Φ v w' → wpList P ops Q rest a' w') (hg : o.guard = none := by rfl) (hd : o.dst = some d := by rfl) (hn : d < n := by decide) : wpList P ops Q (o :: rest) a w :=
  st_ex hf hg hd hn hr h
theorem sk_ {Φ : World → Prop} (hf : Fr n a L) (hr : ∃ w', (execOp a.eval o).run P w = .ok .skip w' ∧ Φ w')
    (h : ∀ a' w', Fr n a' L → Φ w' → wpList P ops Q rest a' w') (hg : o.guard = none := by rfl) (hd : o.dst = none := by rfl) : wpList P ops Q (o :: rest) a w :=
  st_skip hf hg hd hr h
theorem got {t : Nat} {R : Value → Prop} (h : ∃ v, a.tmps[t]? = some v ∧ R v) (hf : Fr n a L) : ∃ v, Fr n a ((t, v) :: L) ∧ R v := by
  obtain ⟨v, h1, h2⟩ := h
  exact ⟨v, hf.more h1, h2⟩
theorem ex_ {α : Type} {p : α → Prop} {x : α} (h : p x) : ∃ x, p x := ⟨x, h⟩
theorem an_ {p q : Prop} (hp : p) (hq : q) : p ∧ q := ⟨hp, hq⟩
section
variable {l : List Oper} {ρ : Nat → Nat} {t : Nat} {R : (Nat → Nat) → World → Value → Prop} {K : Act → World → Prop} {v : Value}
theorem dv_ (hK : ∀ a' v ρ' w', Wd w0 ρ' w' → Ext ρ w ρ' w' → R ρ' w' v → a' = a.put (some t) v → K a' w') (hw : Wd w0 ρ w) (hg : Region.wanted o (yielded ops a.tmps) = true) (hr : (execOp a.eval o).run P w = .ok (.value v) w) (hR : R ρ w v) (hd : o.dst = some t := by rfl) :
    if Region.wanted o (yielded ops a.tmps) = true then o.wp P a w K Q else K (a.put o.dst undef) w := d_val hw hg hr hd hR hK
theorem dx_ {Φ : Value → World → Prop} (hK : ∀ a' v ρ' w', Wd w0 ρ' w' → Ext ρ w ρ' w' → R ρ' w' v → a' = a.put (some t) v → K a' w') (hw : Wd w0 ρ w) (hg : Region.wanted o (yielded ops a.tmps) = true) (hr : ∃ v w', (execOp a.eval o).run P w = .ok (.value v) w' ∧ Φ v w') (hR : ∀ v w', Φ v w' → ∃ ρ', Wd w0 ρ' w' ∧ Ext ρ w ρ' w' ∧ R ρ' w' v) (hd : o.dst = some t := by rfl) :
    if Region.wanted o (yielded ops a.tmps) = true then o.wp P a w K Q else K (a.put o.dst undef) w := d_ex hw hg hr hd hR hK
theorem dc_ {f : FuncId} {args : Array Value} {Φ : Value → World → Prop} (hK : ∀ a' v ρ' w', Wd w0 ρ' w' → Ext ρ w ρ' w' → R ρ' w' v → a' = a.put (some t) v → K a' w') (hw : Wd w0 ρ w) (hg : Region.wanted o (yielded ops a.tmps) = true) (hr : (execOp a.eval o).run P w = .ok (.enter f args) w) (hc : Calls P f args w fun e w' => ∃ v, e = .returned v ∧ Φ v w') (hR : ∀ v w', Φ v w' → ∃ ρ', Wd w0 ρ' w' ∧ Ext ρ w ρ' w' ∧ R ρ' w' v) (hd : o.dst = some t := by rfl) :
    if Region.wanted o (yielded ops a.tmps) = true then o.wp P a w K Q else K (a.put o.dst undef) w := d_call hw hg hr hc hd hR hK
theorem do_ {jj dj : Nat} {b b' : Bool} (hK : ∀ a' v ρ' w', Wd w0 ρ' w' → Ext ρ w ρ' w' → R ρ' w' v → a' = a.put (some t) v → K a' w') (hw : Wd w0 ρ w) (hf : Fr n a L) (hg : o.guard = some (jj, !b)) (hj : (ops[jj]?).bind (·.dst) = some dj) (hd : look L dj = some (.bool b')) (hb : b' = b) (hdd : o.dst = some t) (hR : R ρ w undef) :
    if Region.wanted o (yielded ops a.tmps) = true then o.wp P a w K Q else K (a.put o.dst undef) w := d_off hw hf hg hj hd hb hdd hR hK
end
end Go.Proofs.YtB

/- Words of this seat's own: grids handed out, handed in and turned by a call. -/
set_option linter.unusedVariables false
set_option linter.unusedSimpArgs false
set_option linter.unusedSectionVars false
namespace Go.Proofs.YtB
open Go Go.RowKit
open Go.Proofs.YtbhaeajdabgnhaaW.PrintWords
variable {P : Program} {n : Nat} {a : Act} {L : List (Nat × Value)} {w w' w0 ws : World} {Q : Exit → Act → World → Prop} {ops : Array Oper} {rest : List Oper} {o : Oper}
variable {x y : Operand} {p q : Int} {T T' ty : TypeId} {pos : String} {af : Array Edge} {gd : Option (Nat × Bool)} {dd : Option Tmp} {ad : Addr} {k : Nat} {cs : List Value} {m : Nat}
variable {ρ ρ' ρ0 : Nat → Nat} {i j g e e' B : Nat} {α β : Type} {xs ys : List α} {v u : Value}
variable {d : Fl α} {f f' : Nat → V1} {idx : List Nat} {rows : List (List α)}
/-- a literal of one row -/
def Gl (e : Nat) (ρ : Nat → Nat) (w : World) (B i : Nat) (v u : Value) : Prop := ∃ hu : u.oneCell' = true, Ow (kf (fRef fun _ => ⟨u, hu⟩)) e ρ w B i v [0]
theorem Gl.ext (h : Gl e ρ w B i v u) (hE : Ext ρ w ρ' w') : Gl e ρ' w' B i v u := ⟨h.1, h.2.ext hE⟩
theorem Gl.adv (h : Gl e ρ w B i v u) (hA : Adv j ρ w ρ' w') (hne : i ≠ j) : Gl e ρ' w' B i v u := ⟨h.1, h.2.adv hA hne⟩
theorem Gl.tr (h : Gl e ρ w B i v u) (hT : Tr i ρ w ρ' w') : Gl e ρ' w' B i v u := ⟨h.1, h.2.tr hT⟩
theorem r_glit {bytes : Nat} {z : Value} {o1 : Operand} {d : Kd α} (i : Nat) (hT : P.underlying T = some (.slice e)) (he : El P e 1 bytes z) (hw : Wd w0 ρ w) (hf : Fr n a L) (hx : ev L o1 = some u) (hu : Ow d e' ρ w B j u xs) :
    ∃ v w', (execOp a.eval ⟨dd, .buildSlice T 1 #[(0, o1)], ty, pos, af, gd⟩).run P w = .ok (.value v) w' ∧ ∃ ρ', Wd w0 ρ' w' ∧ Ext ρ w ρ' w' ∧ Gl e ρ' w' w0.heap.size i v u := by
  have h1 : u.oneCell' = true := hu.one
  obtain ⟨v, w', h2, ρ', h3, h4, h5⟩ := r_lit (dd := dd) (ty := ty) (pos := pos) (af := af) (gd := gd) (l := [(0, o1)]) (d := fRef fun _ => ⟨u, h1⟩) (xs := [0]) (vs := [u]) i hT he (Nat.le_of_ble_eq_true rfl) (Nat.le_of_ble_eq_true rfl) hw hf (by simp [hx]) rfl (by simp [fRef, hu.ro.cells1])
  exact ⟨v, w', h2, ρ', h3, h4, h1, h5⟩
/-- append(grid, []T{row}) -/
theorem r_gapp' {lv : Value} {bytes c : Nat} {z : Value} (hT : P.underlying T = some (.slice e)) (he : El P e 1 bytes z) (hw : Wd w0 ρ w) (hj0 : j ≠ 0) (hij : i ≠ j) (hlj : ∀ r, lab i r ≠ j)
    (hG : Gd d e' e ρ w w0.heap.size i v f idx rows) (hL : Gl e ρ w w0.heap.size c lv u) (hj : Ow (kf d) e' ρ w w0.heap.size j u xs)
    (hl : (idx.length + 1) * bytes ≤ 140737488355328) (hf : Fr n a L) (hx : ev L x = some v) (hy : ev L y = some lv) :
    ∃ v1 w1, (execOp a.eval ⟨dd, .call ⟨.builtin .append, #[x, y], #[T, T]⟩, ty, pos, af, gd⟩).run P w = .ok (.value v1) w1 ∧ ∃ f' ρ', Wd w0 ρ' w1 ∧ (∀ b, b ≠ i → b ≠ j → Tr b ρ w ρ' w1) ∧
      Gd d e' e ρ' w1 w0.heap.size i v1 f' (idx ++ [rows.length]) (rows ++ [xs]) ∧ (∀ r, r < rows.length → (f r).1 = (f' r).1) ∧ u = (f' rows.length).1 :=
  r_gapp hT he hw hj0 hij hlj hG hL.2 hj hl hf hx hy
/-- the labels anew: row idx[j] is row j; what is none of them is the outer's -/
def norm (ρ : Nat → Nat) (i : Nat) (idx : List Nat) (c : Nat) : Nat → Nat := fun k => if ρ k = i then c else if 1000 ≤ ρ k ∧ ρ k % 1000 = i then (if ρ k / 1000 - 1 ∈ idx then lab c (idx.idxOf (ρ k / 1000 - 1)) else c) else ρ k
theorem norm_i {c : Nat} (h : ρ k = i) : norm ρ i idx c k = c := by simp [norm, h]
theorem lab_div (hi : i < 1000) (r : Nat) : lab i r / 1000 - 1 = r := by unfold lab; omega
theorem lab_mod (hi : i < 1000) (r : Nat) : lab i r % 1000 = i := by unfold lab; omega
theorem lab_ge (r : Nat) : 1000 ≤ lab i r := by unfold lab; omega
theorem norm_row {r c : Nat} (hi : i < 1000) (h : ρ k = lab i r) (hr : r ∈ idx) : norm ρ i idx c k = lab c (idx.idxOf r) := by
  unfold norm
  rw [if_neg (by rw [h]; exact lab_ne hi r), h, lab_div hi, lab_mod hi, if_pos ⟨lab_ge r, rfl⟩, if_pos hr]
theorem norm_far {c b : Nat} (h : ρ k = b) (h1 : b ≠ i) (h2 : ∀ r, b ≠ lab i r) (hi : i < 1000) : norm ρ i idx c k = b := by
  unfold norm
  rw [h, if_neg h1, if_neg]
  rintro ⟨h3, h4⟩
  apply h2 (b / 1000 - 1)
  unfold lab
  omega
theorem Gd.norm_at (hG : Gd d e' e ρ w B i v f idx rows) (hn : idx.Nodup) {c : Nat} (hc : 0 < c ∧ c < 1000) {ρ' : Nat → Nat} (hρ : ∀ k, B ≤ k → k < w.heap.size → ρ' k = norm ρ i idx c k) :
    Gd d e' e ρ' w B c v (fun j => f (idx.getD j 0)) (List.range idx.length) (gi idx rows) := by
  refine ⟨?_, fun j xs hj => ?_, fun r hr => by rw [gi_len]; exact List.mem_range.1 hr, hc⟩
  · have h1 : Ow (kf (fRef f)) e ρ' w B c v idx := Kd.R_mono (Kd.R_bound hG.out) (fun k hk => by rw [hρ k hk.2.1 hk.2.2.1]; exact norm_i hk.1)
    refine h1.recode ?_
    apply List.ext_getElem?
    intro j
    simp only [List.getElem?_map]
    rcases Nat.lt_or_ge j idx.length with hj | hj
    · rw [List.getElem?_range hj, List.getElem?_eq_getElem hj]
      simp [List.getD_eq_getElem?_getD, List.getElem?_eq_getElem hj]
    · rw [List.getElem?_eq_none hj, List.getElem?_eq_none (l := List.range idx.length) (by simpa using hj)]
      rfl
  · simp only [gi, List.getElem?_map, Option.map_eq_some_iff] at hj
    obtain ⟨r, hr, rfl⟩ := hj
    have hjl : j < idx.length := (List.getElem?_eq_some_iff.1 hr).1
    have hmem := List.mem_of_getElem? hr
    have hrow := hG.rowAt (hG.lt r hmem)
    have e1 : idx.getD j 0 = r := by rw [List.getD_eq_getElem?_getD, hr]; rfl
    have e2 : idx.idxOf r = j := by
      have := (List.getElem?_eq_some_iff.1 hr).2
      rw [← this]
      exact hn.idxOf_getElem j hjl
    rw [e1]
    refine Kd.R_mono (Kd.R_bound hrow) (fun k hk => ?_)
    rw [hρ k hk.2.1 hk.2.2.1, norm_row hG.small.2 hk.1 hmem, e2]
theorem Wd.norm (hw : Wd w0 ρ w) (hi : i ≠ 0) (idx : List Nat) (c : Nat) : Wd w0 (norm ρ i idx c) w := ⟨hw.below, fun k hk => by
  refine hw.own k (fun h0 => hk ?_)
  unfold YtB.norm
  rw [if_neg (by omega), if_neg (by omega)]
  exact h0⟩
theorem Tr.norm {b : Nat} (hb : b ≠ i) (hl : ∀ r, b ≠ lab i r) (hi : i < 1000) (idx : List Nat) (c : Nat) : Tr b ρ w (norm ρ i idx c) w := fun k hk h => ⟨norm_far h hb hl hi, rfl⟩
/-- a grid brought in order, in place -/
theorem Gd.sort (hG : Gd d e' e ρ w w0.heap.size i v f idx rows) (hw : Wd w0 ρ w) (hn : idx.Nodup) : ∃ f' ρ', Wd w0 ρ' w ∧ (∀ b, b ≠ i → (∀ r, b ≠ lab i r) → Tr b ρ w ρ' w) ∧ Gd d e' e ρ' w w0.heap.size i v f' (List.range (gi idx rows).length) (gi idx rows) := by
  have hs := hG.small
  have hN := hG.norm_at hn hs (ρ' := YtB.norm ρ i idx i) (fun k _ _ => rfl)
  rw [← gi_len (idx := idx) (rows := rows)] at hN
  exact ⟨_, _, hw.norm (by omega) idx i, fun b h1 h2 => Tr.norm h1 h2 hs.2 idx i, hN⟩
/-- the call's answer: a grid that it made, in order -/
def GFresh (d : Fl α) (e' e : Nat) (w0 w : World) (v : Value) (rows : List (List α)) : Prop := ∃ i f ρ idx rows', rows = gi idx rows' ∧ idx.Nodup ∧ Gd d e' e ρ w w0.heap.size i v f idx rows'
theorem GFresh.own (h : GFresh d e' e w w' v rows) (hw : Wd w0 ρ w) (hb : Below w.heap.size w w') (K : Nat) (hK : 0 < K ∧ K < 1000) :
    ∃ f ρ', Wd w0 ρ' w' ∧ Ext ρ w ρ' w' ∧ Gd d e' e ρ' w' w0.heap.size K v f (List.range rows.length) rows := by
  obtain ⟨i, f, ρ1, idx, rows', rfl, hn, hG⟩ := h
  let ρ2 : Nat → Nat := fun k => if k < w.heap.size then ρ k else if norm ρ1 i idx K k = 0 then K else norm ρ1 i idx K k
  have hG2 : Gd d e' e (norm ρ1 i idx K) w' w.heap.size K v (fun j => f (idx.getD j 0)) (List.range idx.length) (gi idx rows') := hG.norm_at hn hK (fun k _ _ => rfl)
  have key : ∀ {γ : Type} {dd : Kd γ} {ee l : Nat} {vv : Value} {zs : List γ}, l ≠ 0 → Ow dd ee (norm ρ1 i idx K) w' w.heap.size l vv zs → Ow dd ee ρ2 w' w0.heap.size l vv zs := by
    intro γ dd ee l vv zs hl h
    refine Kd.R_lower (Kd.R_mono (Kd.R_bound h) (fun k hk => ?_)) hw.below.size
    simp only [ρ2]
    rw [if_neg (by have := hk.2.1; omega), if_neg (by rw [hk.1]; exact hl)]
    exact hk.1
  refine ⟨fun j => f (idx.getD j 0), ρ2, ⟨hw.below.trans (hb.mono hw.below.size), fun k hk => ?_⟩, ⟨hb, fun k hk => by simp [ρ2, hk]⟩, ?_⟩
  · rcases Nat.lt_or_ge k w.heap.size with h | h
    · refine hw.own k (fun h0 => hk ?_)
      simp [ρ2, h, h0]
    · exact Nat.le_trans hw.below.size h
  · rw [gi_len]
    exact ⟨key (by omega) hG2.out, fun r xs hr => key (by unfold lab; omega) (hG2.row r xs hr), hG2.lt, hK⟩

/-- what i's grid may have turned -/
structure AdvG (i : Nat) (ρ : Nat → Nat) (w : World) (ρ' : Nat → Nat) (w' : World) : Prop where
  size : w.heap.size ≤ w'.heap.size
  rho : ∀ k, k < w.heap.size → ρ' k = ρ k
  blk : ∀ k, k < w.heap.size → ρ k ≠ i → (∀ r, ρ k ≠ lab i r) → w'.heap[k]? = w.heap[k]?
theorem AdvG.tr (h : AdvG i ρ w ρ' w') (b : Nat) (h1 : b ≠ i) (h2 : ∀ r, b ≠ lab i r) : Tr b ρ w ρ' w' := fun k hk hb => ⟨(h.rho k hk).trans hb, h.blk k hk (by rw [hb]; exact h1) (fun r => by rw [hb]; exact h2 r)⟩
/-- an object takes another's label: the two are one from now on -/
theorem Old.relab {r1 : Nat → Nat} (h : Old r1 ws ρ w) (hj : ∀ k, k < ws.heap.size → r1 k ≠ j) (b : Nat) : Old r1 ws (relab ρ j b) w :=
  ⟨h.size, fun k hk => by unfold YtB.relab; rw [h.rho k hk, if_neg (hj k hk)], h.blk⟩
end Go.Proofs.YtB

/- Words of this seat's own: function values with cells of their maker; a field of a struct in hand. -/
set_option linter.unusedVariables false
set_option linter.unusedSimpArgs false
set_option linter.unusedSectionVars false
namespace Go.Proofs.YtB
open Go Go.RowKit
open Go.Proofs.YtbhaeajdabgnhaaW.PrintWords
variable {P : Program} {n : Nat} {a : Act} {L : List (Nat × Value)} {w w' w0 ws : World} {Q : Exit → Act → World → Prop} {ops : Array Oper} {rest : List Oper} {o : Oper}
variable {x y : Operand} {p q : Int} {T T' ty : TypeId} {pos : String} {af : Array Edge} {gd : Option (Nat × Bool)} {dd : Option Tmp} {ad : Addr} {k : Nat} {cs : List Value} {m : Nat}
variable {ρ ρ' ρ0 : Nat → Nat} {i j g e e' B : Nat} {v u : Value}
theorem r_mkfn {f : FuncId} {l : List Operand} {vs : List Value} (hf : Fr n a L) (hx : evs L l = some vs) :
    (execOp a.eval ⟨dd, .makeFunc (.func f) #[] l.toArray, ty, pos, af, gd⟩).run P w = .ok (.value (.func (.func f) #[] vs.toArray)) w := by
  have hm : l.map a.eval = vs := by
    have h := evs_map hx
    clear hx
    induction l generalizing vs with
    | nil => cases vs with
      | nil => rfl
      | cons => cases h
    | cons o l ih => cases vs with
      | nil => cases h
      | cons u vs =>
        simp only [List.map_cons, List.cons.injEq] at h
        rw [List.map_cons, hf.ev h.1, ih h.2]
  simp [execOp, Instr.makeFunc, hm]
theorem r_fnc {f : FuncId} {ats : Array TypeId} {l : List Operand} {vs cs : List Value} {t : Nat} (he : En P f) (hf : Fr n a L) (ht : look L t = some (.func (.func f) #[] cs.toArray)) (hx : evs L l = some vs) :
    (execOp a.eval ⟨dd, .call ⟨.value (.tmp t), l.toArray, ats⟩, ty, pos, af, gd⟩).run P w = .ok (.enter f (vs ++ cs).toArray) w := by
  obtain ⟨fn, hfn, hnm, hb⟩ := he.h
  have hx' := evs_map hx
  clear hx
  have hm : l.map a.eval = vs := by
    clear hfn hnm hb he
    have hx := hx'
    clear hx'
    induction l generalizing vs with
    | nil => cases vs with
      | nil => rfl
      | cons => cases hx
    | cons o l ih => cases vs with
      | nil => cases hx
      | cons u vs =>
        simp only [List.map_cons, List.cons.injEq] at hx
        rw [List.map_cons, hf.ev hx.1, ih hx.2]
  have h1 : ¬ fn.name = "runtime.NumGoroutine" := by simpa using hnm
  have h2 : ¬ fn.body = none := by
    intro e
    rw [e] at hb
    cases hb
  have h3 : a.eval (.tmp t) = .func (.func f) #[] cs.toArray := hf.ev ht
  simp [execOp, resolve, h3, Deferred.ofValue, invoke, callFunc, hfn, h1, h2, hm]
theorem Va.relab {t : TypeId} (h : Va ρ w j g t cs) (b : Nat) : Va (relab ρ j b) w b g t cs := ⟨h.blk, by unfold YtB.relab; rw [if_pos h.rho]⟩
end Go.Proofs.YtB

/- Words of this seat's own: append(nil, make(..)...); cap of nil; literals of slices that are read. -/
set_option linter.unusedVariables false
set_option linter.unusedSimpArgs false
set_option linter.unusedSectionVars false
namespace Go.Proofs.YtB
open Go Go.RowKit
open Go.Proofs.YtbhaeajdabgnhaaW.PrintWords
variable {P : Program} {n : Nat} {a : Act} {L : List (Nat × Value)} {w w' w0 ws : World} {Q : Exit → Act → World → Prop} {ops : Array Oper} {rest : List Oper} {o : Oper}
variable {x y : Operand} {p q : Int} {T T' Tn ty : TypeId} {pos : String} {af : Array Edge} {gd : Option (Nat × Bool)} {dd : Option Tmp} {ad : Addr} {k : Nat} {cs : List Value} {m : Nat}
variable {ρ ρ' ρ0 : Nat → Nat} {i j g e e' B : Nat} {α : Type} {v u : Value} {xs : List α}
theorem r_cap0 (hT : P.underlying T = some (.slice e)) (hf : Fr n a L) (hx : ev L x = some (.slice none 0 0)) :
    (execOp a.eval ⟨dd, .call ⟨.builtin .cap, #[x], #[T]⟩, ty, pos, af, gd⟩).run P w = .ok (.value (.int .i64 0)) w := by
  simp [execOp, resolve, invoke, builtin, hf.ev hx, Builtin.cap_, run_underlying hT, goInt]
theorem execApp2 {s t : Operand} {vs vt v : Value} (hf : Fr n a L) (hs : ev L s = some vs) (ht : ev L t = some vt) (hr : (Builtin.append_ #[T, Tn] ty #[vs, vt]).run P w = .ok v w') :
    (execOp a.eval ⟨dd, .call ⟨.builtin .append, #[s, t], #[T, Tn]⟩, ty, pos, af, gd⟩).run P w = .ok (.value v) w' := by
  simp [execOp, resolve, invoke, builtin, hf.ev hs, hf.ev ht, hr]
theorem r_app_mk {d : Fl α} {bytes : Nat} {z : Value} {z0 : α} {kn : IntKind} (i : Nat) (hT : P.underlying T = some (.slice e)) (hTn : P.underlying Tn = some (.int kn)) (he : El P e d.n bytes z) (hz : z.cells.toList = d.enc z0) (hw : Wd w0 ρ w) (hf : Fr n a L) (hx : ev L x = some (.slice none 0 0)) (hy : ev L y = some (.int .i64 p)) (h0 : 0 < p) (hl : p.toNat * bytes ≤ 140737488355328) :
    ∃ v w', (execOp a.eval ⟨dd, .call ⟨.builtin .append, #[x, y], #[T, Tn]⟩, ty, pos, af, gd⟩).run P w = .ok (.value v) w' ∧ ∃ ρ', Wd w0 ρ' w' ∧ Ext ρ w ρ' w' ∧ Ow (kf d) e ρ' w' w0.heap.size i v (List.replicate p.toNat z0) := by
  obtain ⟨⟨i0, hi, hz0, hz1, hz2⟩, hzs, hs0, hb0⟩ := he
  obtain ⟨m, rfl⟩ := Int.eq_ofNat_of_zero_le (show 0 ≤ p by omega)
  simp only [Int.toNat_natCast] at hl ⊢
  have hm0 : 0 < m := by omega
  have hm : m ≤ 140737488355328 := Nat.le_trans (Nat.le_mul_of_pos_right _ hb0) hl
  have hr := Go.Lib.run_append_nil_zeros (P := P) w T Tn ty e i0 z .i64 kn hT hTn hi hz0 m hm0 (by rw [hz1]; exact hs0) (by omega) (by rw [hz2]; omega)
  have hge := grownCap_ge w m 0 e
  have hcm : grownCap w m 0 e ≤ maxLen := grownCap_le_maxLen w m 0 e (by simp only [maxLen]; omega)
  have hb : Below w.heap.size w (w.drew.alloc (.cells (Builtin.zeroCells z.cells m ++ Builtin.zeroCells z.cells (grownCap w m 0 e - m)) e)) := ⟨rfl, rfl, rfl, by simp, fun k hk => Go.RowKit.Below.heap_alloc w.drew _ k hk, Nat.le_succ _⟩
  have hmade := Kd.reps_made (R := fun (x : α) cs => cs = d.enc x) hzs hs0 hz m
  have hZm : (madeCells z.cells (m * d.n)).toList = (Builtin.zeroCells z.cells m).toList := by
    unfold madeCells Builtin.zeroCells
    rw [hzs]
  rw [hZm] at hmade
  have hzl : (Builtin.zeroCells z.cells m).toList.length = m * d.n := by have := hmade.1; simpa using this
  refine ⟨_, _, execApp2 hf hx hy hr, ownr ρ w i, hw.new i hb, Ext.new i hb, fun k hk => ?_, (Builtin.zeroCells z.cells m).toList, ⟨by rw [hzl, List.length_replicate]; rfl, .inr ⟨w.heap.size, grownCap w m 0 e, _, by rw [List.length_replicate], hw.below.size, heap_alloc_new w.drew _, by rw [List.length_replicate]; exact hge, hcm, ?_, ?_⟩⟩, hmade⟩
  · have : w.heap.size = k := by simpa [Value.ownBlock] using hk
    subst this
    exact own_new (Nat.le_refl _)
  · show _ = grownCap w m 0 e * d.n
    rw [Array.size_append, size_zeroCells, size_zeroCells, hzs, ← Nat.add_mul]
    congr 1
    omega
  · rw [List.length_replicate, Array.toList_append]
    exact List.take_left' hzl
theorem r_cut_nil {sz : Nat} {z : Operand} (hT : P.underlying T = some (.slice e)) (hs : (P.info? e).map (·.size) = some sz) (hf : Fr n a L) (hx : ev L x = some (.slice none 0 0)) (hz : ev L z = some (.int .i64 0)) :
    (execOp a.eval ⟨dd, .slice T x none (some z) none, ty, pos, af, gd⟩).run P w = .ok (.value (.slice none 0 0)) w := by
  have h := r_cut_v (dd := dd) (ty := ty) (pos := pos) (af := af) (gd := gd) (d := kf (fRaw sz)) (lo := 0) (hi := 0) (ol := none) (oh := some z) hT hs rfl (Ro.nil _ w 0) hf hx (.inl ⟨rfl, rfl⟩) (.inr ⟨z, rfl, hz⟩) (Int.le_refl 0) (Int.le_refl 0) (Int.le_refl _)
  exact h
theorem cl2 {γ : Type} {x y : γ} {r s : List γ} (h : x = y) (h' : r = s) : x :: r = y :: s := by rw [h, h']
theorem Ro.K {d : Kd α} (h : Ro d w u xs) (e : Nat) : (Kd.slice e d).K w xs [u] := by
  obtain ⟨A, c, rfl, h2, h3⟩ := h
  exact ⟨A, c, rfl, h2, h3⟩
end Go.Proofs.YtB

/- Words of this seat's own: cuts of arrays; the library's sort of an own slice, by its contract on the shelf. -/
set_option linter.unusedVariables false
set_option linter.unusedSimpArgs false
set_option linter.unusedSectionVars false

/- Words of this seat's own: the greatest of three numbers. -/
set_option linter.unusedVariables false
set_option linter.unusedSimpArgs false
set_option linter.unusedSectionVars false

