/- Words of this seat's own: the forms in which printed walks use the others. -/
import Derived.Test.YtbhaeajdabgnhaaCsB8
set_option linter.unusedVariables false
set_option linter.unusedSimpArgs false
set_option linter.unusedSectionVars false
namespace Go.Proofs.YtB
open Go Go.RowKit
open Go.Proofs.YtbhaeajdabgnhaaW.PrintWords
variable {P : Program} {n : Nat} {a : Act} {L : List (Nat × Value)} {w w' w0 : World} {Q : Exit → Act → World → Prop} {ops : Array Oper} {rest : List Oper} {o : Oper}
variable {x y : Operand} {p q : Int} {T T' ty : TypeId} {pos : String} {af : Array Edge} {gd : Option (Nat × Bool)} {dd : Option Tmp} {ad : Addr} {k : Nat} {cs : List Value} {m : Nat}
variable {ρ ρ' : Nat → Nat} {i j g e B : Nat} {α β : Type} {d : Kd α} {xs ys : List α} {v u : Value}
theorem c_nt {K : Act → World → Prop} (h : K a w) : wpList P ops (Exit.then K Q) [] a w := h
theorem c_nil (h : Q .normal a w) : wpList P ops Q [] a w := h
theorem n_then {K : Act → World → Prop} (h : K a w) : Exit.then K Q .normal a w := h
theorem n_block {id : Nat} (h : Q .normal a w) : Exit.inBlock id Q .normal a w := h
theorem x_then {K : Act → World → Prop} {id : Nat} (h : Q (.exit id) a w) : Exit.then K Q (.exit id) a w := h
theorem x_block {id : Nat} (h : Q .normal a w) : Exit.inBlock id Q (.exit id) a w := by simp [Exit.inBlock]; exact h
theorem r_then {K : Act → World → Prop} (h : Q .ret a w) : Exit.then K Q .ret a w := h
theorem r_block {id : Nat} (h : Q .ret a w) : Exit.inBlock id Q .ret a w := h
theorem c_exit {id : Nat} (h : Q (.exit id) a w) : (Code.exit id).wp P Q a w := wp_exit h
theorem c_skip (h : Q .normal a w) : Code.skip.wp P Q a w := wp_skip h
theorem c_retc (h : Q .ret a w) : Code.ret.wp P Q a w := wp_ret h
theorem c_block {id : Nat} {c : Code} (h : c.wp P (Exit.inBlock id Q) a w) : (Code.block id c).wp P Q a w := wp_block h
theorem c_true {c : Operand} {x y : Code} (hf : Fr n a L) (hc : ev L c = some (.bool true)) (h : x.wp P Q a w) : (Code.cond c x y).wp P Q a w := c_cond true hf hc h
theorem c_false {c : Operand} {x y : Code} (hf : Fr n a L) (hc : ev L c = some (.bool false)) (h : y.wp P Q a w) : (Code.cond c x y).wp P Q a w := c_cond false hf hc h
theorem c_ift {c : Operand} {x y : Code} {b : Bool} (hf : Fr n a L) (hc : ev L c = some (.bool b)) (hb : b = true) (h : x.wp P Q a w) : (Code.cond c x y).wp P Q a w := by
  subst hb
  exact c_true hf hc h
theorem c_iff {c : Operand} {x y : Code} {b : Bool} (hf : Fr n a L) (hc : ev L c = some (.bool b)) (hb : b = false) (h : y.wp P Q a w) : (Code.cond c x y).wp P Q a w := by
  subst hb
  exact c_false hf hc h
theorem Rnd.goes {σ ρ : Type} {id : Nat} {out : LR σ ρ} {I St : σ → Act → World → Prop} {s : σ} (h : I s a w) : Rnd id out I St Q (.next s) .normal a w := ⟨rfl, h⟩
theorem Rnd.stops {σ ρ : Type} {id : Nat} {out : LR σ ρ} {I St : σ → Act → World → Prop} {s : σ} (h : St s a w) : Rnd id out I St Q (.stop s) (.exit id) a w := ⟨rfl, h⟩
theorem Rnd.rets {σ ρ : Type} {id : Nat} {out : LR σ ρ} {I St : σ → Act → World → Prop} {r : ρ} (h : out = .ret r → Q .ret a w) : Rnd id out I St Q (.ret r) .ret a w := ⟨by simp, h⟩
/-- ways that meet: the answer of what lies before the meeting, or the call's -/
def Met {σ ρ : Type} (out : LR σ ρ) (J : σ → Act → World → Prop) (Q : Exit → Act → World → Prop) (e : Exit) (a : Act) (w : World) : Prop :=
  match out with
  | .stop s => e = .normal ∧ J s a w
  | .ret r => Q e a w
  | .next s => Q e a w
theorem Met.stops {σ ρ : Type} {J : σ → Act → World → Prop} {s : σ} (h : J s a w) : Met (.stop s : LR σ ρ) J Q .normal a w := ⟨rfl, h⟩
theorem c_meet {σ : Type} {c : Code} (J : σ → Act → World → Prop) (s : σ) (h : c.wp P (fun e a w => e = .normal ∧ J s a w) a w) (hJ : ∀ a w, J s a w → Q .normal a w) : c.wp P Q a w :=
  Code.wp_mono (fun e a w h => by obtain ⟨rfl, h⟩ := h; exact hJ a w h) h
theorem c_start {c : Code} (h : ∀ w ρ, Wd w0 ρ w → c.wp P Q a w) : c.wp P Q a w0 := h w0 _ (Wd.start w0)

def evs (L : List (Nat × Value)) : List Operand → Option (List Value)
  | [] => some []
  | x :: r => match ev L x, evs L r with
    | some v, some vs => some (v :: vs)
    | _, _ => none
theorem evs_map : ∀ {l : List Operand} {vs : List Value}, evs L l = some vs → l.map (ev L) = vs.map some
  | [], vs, h => by
    injection h with h
    subst h
    rfl
  | x :: r, vs, h => by
    simp only [evs] at h
    split at h
    · rename_i u us h1 h2
      injection h with h
      subst h
      rw [List.map_cons, h1, evs_map h2]
      rfl
    · cases h
/-- function f is one with a body -/
structure En (P : Program) (f : FuncId) : Prop where
  h : ∃ fn, P.funcs[f]? = some fn ∧ (fn.name == "runtime.NumGoroutine") = false ∧ fn.body.isNone = false
theorem r_fn {f : FuncId} {ats : Array TypeId} {l : List Operand} {vs : List Value} (he : En P f) (hf : Fr n a L) (hx : evs L l = some vs) :
    (execOp a.eval ⟨dd, .call ⟨.value (.func f), l.toArray, ats⟩, ty, pos, af, gd⟩).run P w = .ok (.enter f vs.toArray) w := by
  obtain ⟨fn, h1, h2, h3⟩ := he.h
  exact r_call h1 h2 h3 hf (evs_map hx)

structure FA (P : Program) (S i off : Nat) : Prop where
  h : ∃ fs f m, P.underlying S = some (.struct fs) ∧ fs[i]? = some f ∧ f.offset = off ∧ (P.info? f.type).map (·.size) = some m ∧ m ≠ 0
theorem r_fa {S i off : Nat} (h : FA P S i off) (hf : Fr n a L) (hx : ev L x = some (.pointer (some (ad.add k)))) :
    (execOp a.eval ⟨dd, .fieldAddr S x i, ty, pos, af, gd⟩).run P w = .ok (.value (.pointer (some (ad.add (k + off))))) w := by
  obtain ⟨fs, f, m, h1, h2, h3, h4, h5⟩ := h.h
  obtain ⟨j, h6, h7⟩ := Option.map_eq_some_iff.1 h4
  exact r_fieldAddr h1 h2 h3 ⟨j, h6, by omega⟩ hf hx
theorem r_store_l {d : Fl α} {d' : Fl β} {off : Nat} {gt : α → β} {s : α → β → α} {t : TypeId} {z : α} {b : β} {ag : Bool} (hw : Wd w0 ρ w) (hv : Va ρ w i g t (d.enc z)) (hi : i ≠ 0) (hl : Lens d d' off gt s) (hk : k = off) (hT : Ty P T d'.n ag) (hf : Fr n a L) (hx : ev L x = some (.pointer (some ((⟨g, 0, none⟩ : Addr).add k)))) (hy : ev L y = some v)
    (hs : v.cells.toList = d'.enc b) :
    ∃ w', (execOp a.eval ⟨dd, .store T x y, ty, pos, af, gd⟩).run P w = .ok .skip w' ∧ Wd w0 ρ w' ∧ Adv i ρ w ρ w' ∧ Va ρ w' i g t (d.enc (s z b)) := by
  subst hk
  obtain ⟨w', h1, h2, h3, h4⟩ := r_store (k := k) hw hv hi hT hf hx hy hs (d'.len b) (by rw [d.len]; exact hl.fit) (d'.one b)
  exact ⟨w', h1, h2, h3, Va.lens hl h4⟩
/-- a cell of a variable whose cells are told one by one -/
theorem r_store_c {t : TypeId} {ag : Bool} (hw : Wd w0 ρ w) (hv : Va ρ w i g t cs) (hi : i ≠ 0) (hT : Ty P T 1 ag) (hk : k < cs.length) (hf : Fr n a L) (hx : ev L x = some (.pointer (some ((⟨g, 0, none⟩ : Addr).add k)))) (hy : ev L y = some v) (hs : v.cells.toList = [v]) (h1 : v.oneCell' = true) :
    ∃ w', (execOp a.eval ⟨dd, .store T x y, ty, pos, af, gd⟩).run P w = .ok .skip w' ∧ Wd w0 ρ w' ∧ Adv i ρ w ρ w' ∧ Va ρ w' i g t (cs.set k v) := by
  obtain ⟨w', h1, h2, h3, h4⟩ := r_store (k := k) (m := 1) hw hv hi hT hf hx hy hs rfl (by omega) (by intro u hu; rw [List.mem_singleton.1 hu]; exact h1)
  refine ⟨w', h1, h2, h3, ?_⟩
  have e : cs.take k ++ [v] ++ cs.drop (k + 1) = cs.set k v := by
    rw [List.set_eq_take_append_cons_drop, if_pos hk]
    simp
  rwa [e] at h4
/-- the whole of a variable -/
theorem r_store_w {t : TypeId} {ag : Bool} {cs' : List Value} (hw : Wd w0 ρ w) (hv : Va ρ w i g t cs) (hi : i ≠ 0) (hT : Ty P T m ag) (hl : cs.length = m) (hl' : cs'.length = m) (h1 : ∀ u ∈ cs', u.oneCell' = true) (hf : Fr n a L) (hx : ev L x = some (.pointer (some ((⟨g, 0, none⟩ : Addr).add 0)))) (hy : ev L y = some v) (hs : v.cells.toList = cs') :
    ∃ w', (execOp a.eval ⟨dd, .store T x y, ty, pos, af, gd⟩).run P w = .ok .skip w' ∧ Wd w0 ρ w' ∧ Adv i ρ w ρ w' ∧ Va ρ w' i g t cs' := by
  obtain ⟨w', h1, h2, h3, h4⟩ := r_store (k := 0) (m := m) hw hv hi hT hf hx hy hs hl' (by omega) h1
  refine ⟨w', h1, h2, h3, ?_⟩
  have e : cs.take 0 ++ cs' ++ cs.drop (0 + m) = cs' := by simp [← hl]
  rwa [e] at h4

theorem Ro.shape (h : Ro d w v xs) : ∃ A m c, v = .slice A m c := by
  obtain ⟨A, c, h, _⟩ := h
  exact ⟨A, _, c, h⟩
theorem Ro.one (h : Ro d w v xs) : v.oneCell' = true := by
  obtain ⟨A, m, c, rfl⟩ := h.shape
  rfl
theorem Ro.cells1 (h : Ro d w v xs) : v.cells.toList = [v] := by
  obtain ⟨A, m, c, rfl⟩ := h.shape
  rfl
theorem one_one (h : v.oneCell' = true) : ∀ u ∈ [v], u.oneCell' = true := by
  intro u hu
  rw [List.mem_singleton.1 hu]
  exact h
theorem one_sch {p n m k : Int} (h : v.oneCell' = true) : ∀ u ∈ [Value.int .i64 p, .int .i64 n, .int .i64 m, .int .i64 k, v], u.oneCell' = true := by
  intro u hu
  simp only [List.mem_cons, List.not_mem_nil, or_false] at hu
  rcases hu with rfl | rfl | rfl | rfl | rfl
  · rfl
  · rfl
  · rfl
  · rfl
  · exact h
theorem mk_le {b : Nat} {N : Nat} (h0 : 0 ≤ p) (h : p * (b : Int) ≤ (N : Int)) : p.toNat * b ≤ N := by
  obtain ⟨m, rfl⟩ := Int.eq_ofNat_of_zero_le h0
  simp only [Int.toNat_natCast]
  have : ((m * b : Nat) : Int) ≤ N := by rwa [Int.natCast_mul]
  omega
theorem st_fn {dt : Nat} {f : FuncId} {args : Array Value} {Φ : Value → World → Prop} (i : Nat) (hw : Wd w0 ρ w) (hf : Fr n a L) (hg : o.guard = none) (hd : o.dst = some dt) (hn : dt < n) (hr : (execOp a.eval o).run P w = .ok (.enter f args) w)
    (hc : Calls P f args w fun e w' => ∃ v, e = .returned v ∧ Below w.heap.size w w' ∧ Φ v w')
    (h : ∀ a' v w' ρ', Fr n a' ((dt, v) :: L) → Wd w0 ρ' w' → Ext ρ w ρ' w' → (∀ {α : Type} {d : Kd α} {e : Nat} {u : Value} {xs : List α}, Fresh d e w w' u xs → Ow d e ρ' w' w0.heap.size i u xs) → Φ v w' → wpList P ops Q rest a' w') : wpList P ops Q (o :: rest) a w :=
  st_call hf hg hd hn hr hc fun a' v w' hf' hΦ => h a' v w' (ownr ρ w i) hf' (hw.new i hΦ.1) (Ext.new i hΦ.1) (fun hF => hF.own hw.below.size i) hΦ.2
theorem st_gfn {j dj dt : Nat} {b b' : Bool} {f : FuncId} {args : Array Value} {Φ : Value → World → Prop} (i : Nat) (hw : Wd w0 ρ w) (hf : Fr n a L) (hg : o.guard = some (j, b)) (hj : (ops[j]?).bind (·.dst) = some dj) (hd : look L dj = some (.bool b')) (hb : b' = b) (ht : o.dst = some dt) (hn : dt < n) (hr : (execOp a.eval o).run P w = .ok (.enter f args) w)
    (hc : Calls P f args w fun e w' => ∃ v, e = .returned v ∧ Below w.heap.size w w' ∧ Φ v w')
    (h : ∀ a' v w' ρ', Fr n a' ((dt, v) :: L) → Wd w0 ρ' w' → Ext ρ w ρ' w' → (∀ {α : Type} {d : Kd α} {e : Nat} {u : Value} {xs : List α}, Fresh d e w w' u xs → Ow d e ρ' w' w0.heap.size i u xs) → Φ v w' → wpList P ops Q rest a' w') : wpList P ops Q (o :: rest) a w :=
  st_gcall hf hg hj hd hb ht hn hr hc fun a' v w' hf' hΦ => h a' v w' (ownr ρ w i) hf' (hw.new i hΦ.1) (Ext.new i hΦ.1) (fun hF => hF.own hw.below.size i) hΦ.2
/-- guarded by what was passed over itself -/
theorem st_nu {j dj t : Nat} {b : Bool} (hf : Fr n a L) (hg : o.guard = some (j, b)) (hj : (ops[j]?).bind (·.dst) = some dj) (hd : look L dj = some undef) (ht : o.dst = some t) (hn : t < n)
    (h : ∀ a', Fr n a' ((t, undef) :: L) → wpList P ops Q rest a' w) : wpList P ops Q (o :: rest) a w := by
  have hw : Region.wanted o (yielded ops a.tmps) = false := by
    have := hf.l dj _ hd
    simp [Region.wanted, hg, yielded, hj, this, undef]
  refine wpList_step fun K hK => ?_
  rw [if_neg (by simp [hw])]
  refine hK _ _ (h _ ?_)
  rw [ht]
  exact hf.put t hn undef
theorem cell_of_lens {d : Fl α} {d' : Fl β} {off : Nat} {gt : α → β} {s : α → β → α} {z : α} (hl : Lens d d' off gt s) (hv : d'.enc (gt z) = [v]) : (d.enc z)[off]? = some v := by
  have h := hl.get z
  rw [hv] at h
  have h2 := congrArg (·[0]?) h
  simp only [List.getElem?_take, List.getElem?_drop] at h2
  split at h2
  · simpa using h2
  · simp at h2
theorem r_index_la {d : Fl α} {d' : Fl β} {len e : Nat} {z : α} {gt : α → β} {s : α → β → α} (hT : P.underlying T = some (.array len e)) (he : Ty P e d'.n true) (hf : Fr n a L) (hx : ev L x = some (.agg (d.enc z).toArray)) (hy : ev L y = some (.int .i64 p)) (h0 : 0 ≤ p) (h1 : p < len) (hl : Lens d d' (p.toNat * d'.n) gt s) :
    (execOp a.eval ⟨dd, .index T x y, ty, pos, af, gd⟩).run P w = .ok (.value (.agg (d'.enc (gt z)).toArray)) w := by
  rw [r_index_agg hT he hf hx hy h0 h1, hl.get]
theorem r_index_lc {d : Fl α} {d' : Fl β} {len e : Nat} {z : α} {gt : α → β} {s : α → β → α} (hT : P.underlying T = some (.array len e)) (he : Ty P e 1 false) (hf : Fr n a L) (hx : ev L x = some (.agg (d.enc z).toArray)) (hy : ev L y = some (.int .i64 p)) (h0 : 0 ≤ p) (h1 : p < len) (hl : Lens d d' (p.toNat * 1) gt s) (hv : d'.enc (gt z) = [v]) :
    (execOp a.eval ⟨dd, .index T x y, ty, pos, af, gd⟩).run P w = .ok (.value v) w :=
  r_index_cell hT he hf hx hy h0 h1 (by rw [Nat.mul_one] at hl; exact cell_of_lens hl hv)

def LastsL : List ((Nat → Nat) → World → Value → Prop) → Prop
  | [] => True
  | R :: r => Lasts R ∧ LastsL r
theorem LastsL.at_ : ∀ {l : List ((Nat → Nat) → World → Value → Prop)}, LastsL l → ∀ j, Lasts (l.getD j fun _ _ _ => True)
  | [], _, j => by intro ρ w ρ' w' v _ _; simp
  | R :: r, h, 0 => h.1
  | R :: r, h, j + 1 => LastsL.at_ h.2 j
def StepB (P : Program) (w0 : World) (n : Nat) (L : List (Nat × Value)) (l : List Oper) (Q : Exit → Act → World → Prop) (Γ : (Nat → Nat) → World → Prop) (Rl : List ((Nat → Nat) → World → Value → Prop)) (i : Nat) (o : Oper) : Prop :=
  ∀ ρ w a, Wd w0 ρ w → Γ ρ w → Fr n a L → (∀ j, depB o j = true → ∃ v, a.tmps[dstOf l j]? = some v ∧ (Rl.getD j fun _ _ _ => True) ρ w v) →
    ∀ K : Act → World → Prop, (∀ a' v ρ' w', Wd w0 ρ' w' → Ext ρ w ρ' w' → (Rl.getD i fun _ _ _ => True) ρ' w' v → a' = a.put (some (dstOf l i)) v → K a' w') → if Region.wanted o (yielded l.toArray a.tmps) = true then o.wp P a w K Q else K (a.put o.dst undef) w
def StepsB (P : Program) (w0 : World) (n : Nat) (L : List (Nat × Value)) (l : List Oper) (Q : Exit → Act → World → Prop) (Γ : (Nat → Nat) → World → Prop) (Rl : List ((Nat → Nat) → World → Value → Prop)) : Nat → List Oper → Prop
  | _, [] => True
  | i, o :: r => StepB P w0 n L l Q Γ Rl i o ∧ StepsB P w0 n L l Q Γ Rl (i + 1) r
theorem StepsB.at_ {l : List Oper} {Γ : (Nat → Nat) → World → Prop} {Rl : List ((Nat → Nat) → World → Value → Prop)} : ∀ {r : List Oper} {i : Nat}, StepsB P w0 n L l Q Γ Rl i r → ∀ j o, r[j]? = some o → StepB P w0 n L l Q Γ Rl (i + j) o
  | [], i, _, j, o, h => by cases h
  | o :: r, i, h, 0, o', h' => by
    injection h' with h'
    subst h'
    exact h.1
  | o :: r, i, h, j + 1, o', h' => by
    have := StepsB.at_ h.2 j o' h'
    rwa [Nat.add_assoc, Nat.add_comm 1 j] at this
theorem c_drawL {id h : Nat} {l : List Oper} (hm : P.follows .mixedOrders = true) (hB : drawB l h = true) (hD : dstB l h n (L.map (·.1)) = true) (Γ : (Nat → Nat) → World → Prop) (hΓ : ∀ ρ w ρ' w', Ext ρ w ρ' w' → Γ ρ w → Γ ρ' w')
    (Rl : List ((Nat → Nat) → World → Value → Prop)) (hR : LastsL Rl) (hw : Wd w0 ρ w) (hG : Γ ρ w) (hf : Fr n a L) (step : StepsB P w0 n L l Q Γ Rl 0 (l.take h))
    (tail : ∀ ρ w a, Wd w0 ρ w → Γ ρ w → Fr n a L → (∀ j, j < h → ∃ v, a.tmps[dstOf l j]? = some v ∧ (Rl.getD j fun _ _ _ => True) ρ w v) → wpList P l.toArray Q (l.drop h) a w) : (Code.region id l.toArray true).wp P Q a w :=
  c_draw hm hB hD Γ hΓ (fun j => Rl.getD j fun _ _ _ => True) (fun j _ => hR.at_ j) hw hG hf (fun i o ρ w a hi ho => by
    have := StepsB.at_ step i o (by rw [List.getElem?_take, if_pos hi]; exact ho)
    rw [Nat.zero_add] at this
    exact this ρ w a) tail
section
variable {l : List Oper} {Γ : (Nat → Nat) → World → Prop} {t : Nat} {R : (Nat → Nat) → World → Value → Prop} {K : Act → World → Prop}
theorem d_val (hw : Wd w0 ρ w) (hg : Region.wanted o (yielded ops a.tmps) = true) (hr : (execOp a.eval o).run P w = .ok (.value v) w) (hd : o.dst = some t) (hR : R ρ w v) (hK : ∀ a' v ρ' w', Wd w0 ρ' w' → Ext ρ w ρ' w' → R ρ' w' v → a' = a.put (some t) v → K a' w') :
    if Region.wanted o (yielded ops a.tmps) = true then o.wp P a w K Q else K (a.put o.dst undef) w := by
  rw [if_pos hg]
  unfold Oper.wp
  rw [hr]
  exact hK _ v ρ w hw (Ext.refl _ _) hR (by rw [hd])
theorem d_ex {Φ : Value → World → Prop} (hw : Wd w0 ρ w) (hg : Region.wanted o (yielded ops a.tmps) = true) (hr : ∃ v w', (execOp a.eval o).run P w = .ok (.value v) w' ∧ Φ v w') (hd : o.dst = some t) (hR : ∀ v w', Φ v w' → ∃ ρ', Wd w0 ρ' w' ∧ Ext ρ w ρ' w' ∧ R ρ' w' v) (hK : ∀ a' v ρ' w', Wd w0 ρ' w' → Ext ρ w ρ' w' → R ρ' w' v → a' = a.put (some t) v → K a' w') :
    if Region.wanted o (yielded ops a.tmps) = true then o.wp P a w K Q else K (a.put o.dst undef) w := by
  rw [if_pos hg]
  unfold Oper.wp
  obtain ⟨v, w', hr, hΦ⟩ := hr
  rw [hr]
  obtain ⟨ρ', h1, h2, h3⟩ := hR v w' hΦ
  exact hK _ v ρ' w' h1 h2 h3 (by rw [hd])
theorem d_call {f : FuncId} {args : Array Value} {Φ : Value → World → Prop} (hw : Wd w0 ρ w) (hg : Region.wanted o (yielded ops a.tmps) = true) (hr : (execOp a.eval o).run P w = .ok (.enter f args) w) (hc : Calls P f args w fun e w' => ∃ v, e = .returned v ∧ Φ v w') (hd : o.dst = some t) (hR : ∀ v w', Φ v w' → ∃ ρ', Wd w0 ρ' w' ∧ Ext ρ w ρ' w' ∧ R ρ' w' v) (hK : ∀ a' v ρ' w', Wd w0 ρ' w' → Ext ρ w ρ' w' → R ρ' w' v → a' = a.put (some t) v → K a' w') :
    if Region.wanted o (yielded ops a.tmps) = true then o.wp P a w K Q else K (a.put o.dst undef) w := by
  rw [if_pos hg]
  unfold Oper.wp
  rw [hr]
  refine hc.mono ?_
  rintro e w' ⟨v, rfl, hΦ⟩
  obtain ⟨ρ', h1, h2, h3⟩ := hR v w' hΦ
  exact hK _ v ρ' w' h1 h2 h3 (by rw [hd])
theorem wn (hg : o.guard = none) : Region.wanted o (yielded ops a.tmps) = true := by simp [Region.wanted, hg]
theorem wg {jj dj : Nat} {b b' : Bool} (hf : Fr n a L) (hg : o.guard = some (jj, b)) (hj : (ops[jj]?).bind (·.dst) = some dj) (hd : look L dj = some (.bool b')) (hb : b' = b) : Region.wanted o (yielded ops a.tmps) = true := by
  subst hb
  exact wants hf hg hj hd
theorem d_off {jj dj : Nat} {b b' : Bool} (hw : Wd w0 ρ w) (hf : Fr n a L) (hg : o.guard = some (jj, !b)) (hj : (ops[jj]?).bind (·.dst) = some dj) (hd : look L dj = some (.bool b')) (hb : b' = b) (hdd : o.dst = some t) (hR : R ρ w undef) (hK : ∀ a' v ρ' w', Wd w0 ρ' w' → Ext ρ w ρ' w' → R ρ' w' v → a' = a.put (some t) v → K a' w') :
    if Region.wanted o (yielded ops a.tmps) = true then o.wp P a w K Q else K (a.put o.dst undef) w := by
  subst hb
  have hw' : Region.wanted o (yielded ops a.tmps) = false := by
    simp [Region.wanted, hg, yield_of hf hj hd]
  rw [if_neg (by simp [hw'])]
  exact hK _ undef ρ w hw (Ext.refl _ _) hR (by rw [hdd])
end
end Go.Proofs.YtB
