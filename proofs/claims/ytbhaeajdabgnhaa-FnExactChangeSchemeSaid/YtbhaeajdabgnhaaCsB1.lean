/- Words of this seat's own: frames by a list of live slots; what an operation does, as an equation on its run; the steps of a region, a loop, a join. -/
import Derived.Test.YtbhaeajdabgnhaaCsV
set_option linter.unusedVariables false
set_option linter.unusedSimpArgs false
set_option linter.unusedSectionVars false
namespace Go.Proofs.YtB
open Go Go.RowKit
def look : List (Nat × Value) → Nat → Option Value
  | [], _ => none
  | (k, v) :: r, t => match Nat.beq k t with
    | true => some v
    | false => look r t
structure Fr (n : Nat) (a : Act) (L : List (Nat × Value)) : Prop where
  d : a.defers = []
  s : a.tmps.size = n
  l : ∀ t v, look L t = some v → a.tmps[t]? = some v
def ev (L : List (Nat × Value)) : Operand → Option Value
  | .tmp t => look L t
  | .const v => some v
  | .global g => some (.pointer (some ⟨g, 0, none⟩))
  | .func f => some (.func (.func f) #[] #[])
variable {P : Program} {n : Nat} {a : Act} {L : List (Nat × Value)} {w w' : World}
theorem Fr.ev (hf : Fr n a L) {x : Operand} {v : Value} (h : ev L x = some v) : a.eval x = v := by
  cases x with
  | tmp t =>
    have := hf.l t v h
    simp [Act.eval, this]
  | const u => simpa [YtB.ev, Act.eval] using h
  | global g => simpa [YtB.ev, Act.eval] using h
  | func f => simpa [YtB.ev, Act.eval] using h
theorem Fr.put (hf : Fr n a L) (d : Nat) (hd : d < n) (v : Value) : Fr n (a.put (some d) v) ((d, v) :: L) := by
  refine ⟨hf.d, by simp [Act.put, hf.s], fun t u h => ?_⟩
  simp only [look] at h
  simp only [Act.put]
  cases hb : Nat.beq d t with
  | true =>
    rw [hb] at h
    have e : d = t := Nat.eq_of_beq_eq_true hb
    subst e
    injection h with h
    subst h
    simp [hf.s, hd]
  | false =>
    rw [hb] at h
    have e : d ≠ t := Nat.ne_of_beq_eq_false hb
    rw [Array.getElem?_setIfInBounds_ne e]
    exact hf.l t u h
/-- what is kept of a frame -/
def sub (L : List (Nat × Value)) : List (Nat × Value) → Prop
  | [] => True
  | (t, v) :: r => look L t = some v ∧ sub L r
theorem Fr.sub {L' : List (Nat × Value)} (hf : Fr n a L) (h : sub L L') : Fr n a L' := by
  refine ⟨hf.d, hf.s, ?_⟩
  induction L' with
  | nil => intro t v h; cases h
  | cons p r ih =>
    obtain ⟨k, u⟩ := p
    intro t v hv
    simp only [look] at hv
    cases hb : Nat.beq k t with
    | true =>
      rw [hb] at hv
      injection hv with hv
      subst hv
      rw [← Nat.eq_of_beq_eq_true hb]
      exact hf.l k u h.1
    | false =>
      rw [hb] at hv
      exact ih h.2 t v hv

def enumL : Nat → List Value → List (Nat × Value)
  | _, [] => []
  | k, v :: r => (k, v) :: enumL (k + 1) r
theorem look_enumL : ∀ (l : List Value) (k t : Nat) (v : Value), look (enumL k l) t = some v → k ≤ t ∧ l[t - k]? = some v
  | [], k, t, v, h => by cases h
  | u :: r, k, t, v, h => by
    simp only [enumL, look] at h
    cases hb : Nat.beq k t with
    | true =>
      rw [hb] at h
      have := Nat.eq_of_beq_eq_true hb
      subst this
      exact ⟨Nat.le_refl _, by simpa using h⟩
    | false =>
      rw [hb] at h
      have e : k ≠ t := Nat.ne_of_beq_eq_false hb
      obtain ⟨h1, h2⟩ := look_enumL r (k + 1) t v h
      refine ⟨by omega, ?_⟩
      rw [show t - k = (t - (k + 1)) + 1 by omega]
      simpa using h2
theorem Fr.enter (l : List Value) (k : Nat) (hk : l.length ≤ k) : Fr k { tmps := l.toArray ++ Array.replicate (k - l.toArray.size) undef, defers := [] } (enumL 0 l) := by
  refine ⟨rfl, by simp; omega, fun t v h => ?_⟩
  obtain ⟨_, h⟩ := look_enumL l 0 t v h
  simp only [Nat.sub_zero] at h
  have hl : t < l.length := by
    rcases Nat.lt_or_ge t l.length with h1 | h1
    · exact h1
    · rw [List.getElem?_eq_none h1] at h; cases h
  show (l.toArray ++ _)[t]? = some v
  rw [Array.getElem?_append_left (by simpa using hl)]
  simpa using h
/-- a call from its body's walk -/
theorem calls_of {f : FuncId} {fn : Func} {c : Code} {l : List Value} {k : Nat} {R : Ending → World → Prop} (hf : P.funcs[f]? = some fn) (hb : fn.body = some c) (hn : fn.ntmps = k) (hk : l.length ≤ k)
    (h : ∀ a, Fr k a (enumL 0 l) → c.wp P (bodyPost P fn R) a w) : Calls P f l.toArray w R :=
  calls_of_wp hf hb (by rw [hn]; exact h _ (Fr.enter l k hk))

variable {Q : Exit → Act → World → Prop} {ops : Array Oper} {rest : List Oper} {o : Oper}
theorem c_seq {x y : Code} (h : x.wp P (Exit.then (y.wp P Q) Q) a w) : (Code.seq x y).wp P Q a w := wp_seq h
theorem c_region {id : Nat} {l : List Oper} (h : wpList P l.toArray Q l a w) : (Code.region id l.toArray false).wp P Q a w := wp_region_lit h
theorem c_cond {c : Operand} {x y : Code} (b : Bool) (hf : Fr n a L) (hc : ev L c = some (.bool b)) (h : (if b then x else y).wp P Q a w) : (Code.cond c x y).wp P Q a w := wp_cond (hf.ev hc) h
inductive LR (σ ρ : Type) where
  | next (s : σ)
  | stop (s : σ)
  | ret (r : ρ)
def iterF {σ ρ : Type} (body : σ → Option (LR σ ρ)) : Nat → σ → Option (LR σ ρ)
  | 0, _ => none
  | k + 1, s => match body s with
    | none => none
    | some (.next s') => iterF body k s'
    | some x => some x
theorem iterF_mono {σ ρ : Type} {body : σ → Option (LR σ ρ)} : ∀ {k : Nat} {s : σ} {x : LR σ ρ}, iterF body k s = some x → ∀ m, k ≤ m → iterF body m s = some x := by
  intro k
  induction k with
  | zero => intro s x h; cases h
  | succ k ih =>
    intro s x h m hm
    obtain ⟨m, rfl⟩ : ∃ m', m = m' + 1 := ⟨m - 1, by omega⟩
    simp only [iterF] at h ⊢
    cases hb : body s with
    | none => rw [hb] at h; cases h
    | some y =>
      rw [hb] at h
      cases y with
      | next s' => exact ih h m (by omega)
      | stop s' => exact h
      | ret r => exact h
open Classical in
noncomputable def iter {σ ρ : Type} (body : σ → Option (LR σ ρ)) (s : σ) : Option (LR σ ρ) :=
  if h : ∃ k, (iterF body k s).isSome = true then iterF body (Classical.choose h) s else none
theorem iter_of {σ ρ : Type} {body : σ → Option (LR σ ρ)} {k : Nat} {s : σ} {x : LR σ ρ} (h : iterF body k s = some x) : iter body s = some x := by
  have hk : ∃ k, (iterF body k s).isSome = true := ⟨k, by rw [h]; rfl⟩
  unfold iter
  rw [dif_pos hk]
  have hc := Classical.choose_spec hk
  obtain ⟨y, hy⟩ := Option.isSome_iff_exists.1 hc
  have h1 := iterF_mono hy (max (Classical.choose hk) k) (by omega)
  have h2 := iterF_mono h (max (Classical.choose hk) k) (by omega)
  rw [hy, ← h1, h2]
theorem of_iter {σ ρ : Type} {body : σ → Option (LR σ ρ)} {s : σ} {x : LR σ ρ} (h : iter body s = some x) : ∃ k, iterF body k s = some x := by
  unfold iter at h
  split at h
  · exact ⟨_, h⟩
  · cases h
theorem iter_eq {σ ρ : Type} (body : σ → Option (LR σ ρ)) (s : σ) : iter body s = match body s with
    | none => none
    | some (.next s') => iter body s'
    | some x => some x := by
  cases hb : body s with
  | none =>
    cases hi : iter body s with
    | none => rfl
    | some x =>
      obtain ⟨k, hk⟩ := of_iter hi
      cases k with
      | zero => cases hk
      | succ k => simp [iterF, hb] at hk
  | some y =>
    cases y with
    | next s' =>
      show iter body s = iter body s'
      cases hi : iter body s' with
      | some x =>
        obtain ⟨k, hk⟩ := of_iter hi
        exact iter_of (k := k + 1) (by simp [iterF, hb, hk])
      | none =>
        cases hi2 : iter body s with
        | none => rfl
        | some x =>
          obtain ⟨k, hk⟩ := of_iter hi2
          cases k with
          | zero => cases hk
          | succ k =>
            simp only [iterF, hb] at hk
            rw [iter_of hk] at hi
            cases hi
    | stop s' => exact iter_of (k := 1) (by simp [iterF, hb])
    | ret r => exact iter_of (k := 1) (by simp [iterF, hb])
/-- where a loop's round may end: 'St' holds where the loop is left by its block's exit -/
def Rnd {σ ρ : Type} (id : Nat) (out : LR σ ρ) (I St : σ → Act → World → Prop) (Q : Exit → Act → World → Prop) (lr : LR σ ρ) (e : Exit) (a : Act) (w : World) : Prop :=
  match lr with
  | .next s => e = .normal ∧ I s a w
  | .stop s => e = .exit id ∧ St s a w
  | .ret r => e ≠ .normal ∧ (out = .ret r → Q e a w)
theorem c_loop {σ ρ : Type} {id : Nat} {c : Code} (body : σ → Option (LR σ ρ)) (I St : σ → Act → World → Prop) {s0 : σ} {out : LR σ ρ} (hit : iter body s0 = some out) (h0 : I s0 a w)
    (round : ∀ s lr a w, I s a w → body s = some lr → c.wp P (Rnd id out I St Q lr) a w)
    (hst : ∀ s a w, out = .stop s → St s a w → Q (.exit id) a w) : (Code.loop c).wp P Q a w := by
  obtain ⟨k, hk⟩ := of_iter hit
  intro b kk cs
  have key : ∀ k s a w, iterF body k s = some out → I s a w → ∃ e a' w', Q e a' w' ∧ Arrives P (lone (b.at a (.code c :: .inLoop c :: kk)) cs w) b kk cs e a' w' := by
    intro k
    induction k with
    | zero => intro s a w h; cases h
    | succ k ih =>
      intro s a w h hI
      simp only [iterF] at h
      cases hb : body s with
      | none => rw [hb] at h; cases h
      | some lr =>
        rw [hb] at h
        obtain ⟨e, a₁, w₁, hq, harr⟩ := round s lr a w hI hb b (.inLoop c :: kk) cs
        have fin : Q e a₁ w₁ → e ≠ .normal → ∃ e a' w', Q e a' w' ∧ Arrives P (lone (b.at a (.code c :: .inLoop c :: kk)) cs w) b kk cs e a' w' :=
          fun hq hne => ⟨e, a₁, w₁, hq, .pass (x := .inLoop c) rfl (fun _ _ => .inl hne) harr⟩
        cases lr with
        | next s' =>
          obtain ⟨rfl, hI'⟩ := hq
          obtain ⟨e₂, a₂, w₂, hq₂, harr₂⟩ := ih s' a₁ w₁ h hI'
          exact ⟨e₂, a₂, w₂, hq₂, .of_steps (Steps.trans harr (.one step_inLoop)) harr₂⟩
        | stop s' =>
          obtain ⟨rfl, hS⟩ := hq
          injection h with h
          exact fin (hst s' a₁ w₁ h.symm hS) (by simp)
        | ret r =>
          injection h with h
          exact fin (hq.2 h.symm) hq.1
  obtain ⟨e, a', w', hq, harr⟩ := key k s0 a w hk h0
  exact ⟨e, a', w', hq, .of_steps (.one step_loop) harr⟩
end Go.Proofs.YtB
