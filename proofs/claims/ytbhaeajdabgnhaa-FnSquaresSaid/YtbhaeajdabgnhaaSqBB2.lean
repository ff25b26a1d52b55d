/- Words of this seat's own: worlds, regions, slices, grids: what the printed texts lean on. -/
import Derived.Test.YtbhaeajdabgnhaaSqBB1
import Derived.Shelf.SlSortCmp.Whole1
/- Words of this seat's own: the library's sort of a grid's rows; slices that share a grid's rows. -/
set_option linter.unusedVariables false
set_option linter.unusedSimpArgs false
set_option linter.unusedSectionVars false
namespace Go.Proofs.YtB
open Go Go.RowKit Go.Sort Go.Shelf
open Go.Proofs.YtbhaeajdabgnhaaW.PrintWords
variable {P : Program} {n : Nat} {a : Act} {L : List (Nat × Value)} {w w' w0 ws : World} {Q : Exit → Act → World → Prop} {ops : Array Oper} {rest : List Oper} {o : Oper}
variable {x y : Operand} {p q : Int} {T T' ty : TypeId} {pos : String} {af : Array Edge} {gd : Option (Nat × Bool)} {dd : Option Tmp} {ad : Addr} {k : Nat} {m : Nat}
variable {ρ ρ' ρ0 : Nat → Nat} {i j g e e' B : Nat} {α β : Type} {v u : Value}
variable {d : Fl α} {f f' : Nat → V1} {idx : List Nat} {rows r : List (List α)}
theorem gi_range (rows : List (List α)) : gi (List.range rows.length) rows = rows := by
  apply List.ext_getElem?
  intro j
  unfold gi
  rw [List.getElem?_map]
  rcases Nat.lt_or_ge j rows.length with h | h
  · rw [List.getElem?_range h, Option.map_some, List.getElem?_eq_getElem h, List.getD_eq_getElem?_getD, List.getElem?_eq_getElem h]; rfl
  · rw [List.getElem?_eq_none (by simpa using h), List.getElem?_eq_none h]; rfl
structure Rf (f : Nat → V1) (e : Nat) (ρ : Nat → Nat) (w : World) (B j : Nat) (v : Value) (idx : List Nat) (m : Nat) : Prop where
  out : Ow (kf (fRef f)) e ρ w B j v idx
  lt : ∀ r, r ∈ idx → r < m
theorem Rf.ext (h : Rf f e ρ w B i v idx m) (hE : Ext ρ w ρ' w') : Rf f e ρ' w' B i v idx m := ⟨h.out.ext hE, h.lt⟩
theorem Rf.adv (h : Rf f e ρ w B i v idx m) (hA : Adv j ρ w ρ' w') (hne : i ≠ j) : Rf f e ρ' w' B i v idx m := ⟨h.out.adv hA hne, h.lt⟩
theorem Rf.tr (h : Rf f e ρ w B i v idx m) (hT : Tr i ρ w ρ' w') : Rf f e ρ' w' B i v idx m := ⟨h.out.tr hT, h.lt⟩
theorem Rf.relab (h : Rf f e ρ w B j v idx m) (b : Nat) : Rf f e (relab ρ j b) w B b v idx m := ⟨h.out.relab b, h.lt⟩
theorem Rf.empty {dd : Kd β} (h : Ow dd e ρ w B i v []) (hs : dd.sz = 1) (f : Nat → V1) (m : Nat) : Rf f e ρ w B i v [] m := by
  refine ⟨⟨h.1, ?_⟩, fun r hr => by simp at hr⟩
  obtain ⟨inner, ho, hr⟩ := h.2
  have hin : inner = [] := by have := hr.1; simpa using this
  subst hin
  refine ⟨[], ?_, rfl, fun j p hj => by simp at hj⟩
  show World.ownsRow w B e 1 v _ _
  rw [← hs]
  exact ho
theorem Rf.lt_gl (h : Rf f e ρ w B i v idx m) (h0 : 0 ≤ p) (h1 : p < idx.length) : gl 0 idx p < m := by
  refine h.lt _ ?_
  have hp : p.toNat < idx.length := by omega
  unfold gl
  rw [List.getD_eq_getElem?_getD, List.getElem?_eq_getElem hp]
  exact List.getElem_mem hp
/-- what is handed back: rows of the grid, apart or not -/
theorem Rf.fresh {idx2 : List Nat} {e2 : Nat} (h : Rf f e ρ w w0.heap.size j v idx rows.length) (hG : Gd d e' e2 ρ w w0.heap.size i u f idx2 rows) (hl : ∀ r, lab i r ≠ j) : Fresh (Kd.slice e' (kf d)) e w0 w v (gi idx rows) := by
  obtain ⟨hown, inner, ho, hr⟩ := h.out
  refine ⟨fun _ _ => trivial, inner, by rw [gi_len]; exact ho, by rw [gi_len]; exact hr.1, fun jj p hj => ?_⟩
  simp only [gi, List.getElem?_map, Option.map_eq_some_iff] at hj
  obtain ⟨r, hr', rfl⟩ := hj
  have h2 : (inner.drop (jj * 1)).take 1 = [(f r).1] := hr.2 jj r hr'
  have hrl := h.lt r (List.mem_of_getElem? hr')
  refine ⟨(f r).1, h2, Kd.R_mono (hG.rowAt hrl) (fun k hk => ⟨trivial, fun he => ?_⟩)⟩
  have h7 : ρ k = j := hown k he.symm
  exact hl r (hk.symm.trans h7)
end Go.Proofs.YtB

/- Words of this seat's own: loops round by round; grids made at once; values of literals, reckoned. -/
set_option linter.unusedVariables false
set_option linter.unusedSimpArgs false
set_option linter.unusedSectionVars false
namespace Go.Proofs.YtB
open Go Go.RowKit
open Go.Proofs.YtbhaeajdabgnhaaW.PrintWords
variable {P : Program} {n : Nat} {a : Act} {L : List (Nat × Value)} {w w' w0 ws : World} {Q : Exit → Act → World → Prop} {ops : Array Oper} {rest : List Oper} {o : Oper}
variable {x y : Operand} {p q : Int} {T T' ty : TypeId} {pos : String} {af : Array Edge} {gd : Option (Nat × Bool)} {dd : Option Tmp} {ad : Addr} {k : Nat} {m : Nat}
variable {ρ ρ' ρ0 : Nat → Nat} {i j g e e' B : Nat} {α β : Type} {v u : Value} {d : Fl α}
/-- a loop at its round's start -/
def Lp (P : Program) (c : Code) (Q : Exit → Act → World → Prop) (a : Act) (w : World) : Prop :=
  ∀ (b : Frame) (kk : List Item) (cs : List Frame), ∃ e a' w', Q e a' w' ∧ Arrives P (lone (b.at a (.code c :: .inLoop c :: kk)) cs w) b kk cs e a' w'
def Unr (P : Program) (c : Code) (Q : Exit → Act → World → Prop) (e : Exit) (a : Act) (w : World) : Prop := (e = .normal ∧ Lp P c Q a w) ∨ (e ≠ .normal ∧ Q e a w)
theorem Lp.go {c : Code} (h : c.wp P (Unr P c Q) a w) : Lp P c Q a w := by
  intro b kk cs
  obtain ⟨e, a₁, w₁, hq, harr⟩ := h b (.inLoop c :: kk) cs
  rcases hq with ⟨rfl, hq⟩ | ⟨hne, hq⟩
  · obtain ⟨e₂, a₂, w₂, hq₂, harr₂⟩ := hq b kk cs
    exact ⟨e₂, a₂, w₂, hq₂, .of_steps (Steps.trans harr (.one step_inLoop)) harr₂⟩
  · exact ⟨e, a₁, w₁, hq, .pass (x := .inLoop c) rfl (fun _ _ => .inl hne) harr⟩
/-- make([][]T, n): n rows that are nil, one and the same -/
def nilV : V1 := ⟨.slice none 0 0, rfl⟩
theorem Gd.made (h : Ow (kf (fRef fun _ => nilV)) e ρ w B i v (List.replicate m 0)) (hi : 0 < i ∧ i < 1000) : Gd d e' e ρ w B i v (fun _ => nilV) (List.replicate m 0) [[]] := by
  refine ⟨h, fun r xs hr => ?_, fun r hr => by rw [List.eq_of_mem_replicate hr]; exact Nat.zero_lt_one, hi⟩
  cases r with
  | zero =>
    have : [] = xs := by simpa using hr
    subst this
    exact Ow.nil _ _ _ _ _ _
  | succ r => simp at hr
end Go.Proofs.YtB

/- Words of this seat's own: numbers of 64 bits without sign; a source of draws that a call turns through a pointer. -/
set_option linter.unusedVariables false
set_option linter.unusedSimpArgs false
set_option linter.unusedSectionVars false
namespace Go.Proofs.YtB
open Go Go.RowKit
open Go.Proofs.YtbhaeajdabgnhaaW.PrintWords
variable {P : Program} {n : Nat} {a : Act} {L : List (Nat × Value)} {w w' w0 ws : World} {Q : Exit → Act → World → Prop} {ops : Array Oper} {rest : List Oper} {o : Oper}
variable {x y : Operand} {p q : Int} {T T' ty : TypeId} {pos : String} {af : Array Edge} {gd : Option (Nat × Bool)} {dd : Option Tmp} {ad : Addr} {k : Nat} {m : Nat}
variable {ρ ρ' ρ0 : Nat → Nat} {i j g e e' B K : Nat} {α β : Type} {v u : Value} {cs cs' : List Value} {xs : List α}
abbrev vU (x : Int) : Value := .int .u64 x
def wu (x : Int) : Int := IntKind.u64.wrap x
theorem r_add_u (hf : Fr n a L) (hx : ev L x = some (.int .u64 p)) (hy : ev L y = some (.int .u64 q)) : (execOp a.eval ⟨dd, .binOp .add T x y T', ty, pos, af, gd⟩).run P w = .ok (.value (.int .u64 (wu (p + q)))) w := by
  simp [execOp, hf.ev hx, hf.ev hy, eqGuard, binOp, Op.intArith, wu]
theorem r_mul_u (hf : Fr n a L) (hx : ev L x = some (.int .u64 p)) (hy : ev L y = some (.int .u64 q)) : (execOp a.eval ⟨dd, .binOp .mul T x y T', ty, pos, af, gd⟩).run P w = .ok (.value (.int .u64 (wu (p * q)))) w := by
  simp [execOp, hf.ev hx, hf.ev hy, eqGuard, binOp, Op.intArith, wu]
def shru (p q : Int) : Int := p.fdiv (2 ^ min q.toNat 64)
theorem r_shr_u (hf : Fr n a L) (hx : ev L x = some (.int .u64 p)) (hy : ev L y = some (.int .u64 q)) (h0 : 0 ≤ q) : (execOp a.eval ⟨dd, .binOp .shr T x y T', ty, pos, af, gd⟩).run P w = .ok (.value (.int .u64 (shru p q))) w := by
  simp [execOp, hf.ev hx, hf.ev hy, eqGuard, binOp, Op.shift, shru, show ¬ q < 0 by omega, IntKind.bits]
def andu (p q : Int) : Int := wu ((BitVec.ofInt 64 p &&& BitVec.ofInt 64 q).toNat : Int)
theorem r_and_u (hf : Fr n a L) (hx : ev L x = some (.int .u64 p)) (hy : ev L y = some (.int .u64 q)) : (execOp a.eval ⟨dd, .binOp .and T x y T', ty, pos, af, gd⟩).run P w = .ok (.value (.int .u64 (andu p q))) w := by
  have h : (Op.intBits .and .u64 p q).run P w = .ok (.int .u64 (andu p q)) w := rfl
  simp only [execOp, hf.ev hx, hf.ev hy, Sem.run_bind]
  simp [eqGuard, binOp, h]
theorem r_conv_i64_u64 (hT : P.underlying T = some (.int .i64)) (hT' : P.underlying T' = some (.int .u64)) (hf : Fr n a L) (hx : ev L x = some (.int .i64 p)) : (execOp a.eval ⟨dd, .convert T T' x, ty, pos, af, gd⟩).run P w = .ok (.value (.int .u64 (wu p))) w := by
  simp [execOp, hf.ev hx, convert, run_underlying hT, run_underlying hT', Conv.intToInt, wu]
theorem r_conv_u8_u64 {b : UInt8} (hT : P.underlying T = some (.int .u8)) (hT' : P.underlying T' = some (.int .u64)) (hf : Fr n a L) (hx : ev L x = some (.int .u8 (b.toNat : Int))) : (execOp a.eval ⟨dd, .convert T T' x, ty, pos, af, gd⟩).run P w = .ok (.value (.int .u64 (wu (b.toNat : Int)))) w := by
  simp [execOp, hf.ev hx, convert, run_underlying hT, run_underlying hT', Conv.intToInt, wu]
theorem r_conv_u64_i64 (hT : P.underlying T = some (.int .u64)) (hT' : P.underlying T' = some (.int .i64)) (hf : Fr n a L) (hx : ev L x = some (.int .u64 p)) : (execOp a.eval ⟨dd, .convert T T' x, ty, pos, af, gd⟩).run P w = .ok (.value (.int .i64 (w64 p))) w := by
  simp [execOp, hf.ev hx, convert, run_underlying hT, run_underlying hT', Conv.intToInt, w64]
theorem r_nilck (hf : Fr n a L) (hx : ev L x = some (.pointer (some ad))) : (execOp a.eval ⟨dd, .nilCheck x, ty, pos, af, gd⟩).run P w = .ok (.value (.pointer (some ad))) w := by
  simp [execOp, hf.ev hx]

/-- of what was there before, only i's may have turned -/
structure Nw (i : Nat) (ρ : Nat → Nat) (w0 w w' : World) : Prop where
  below : Below w0.heap.size w0 w'
  size : w.heap.size ≤ w'.heap.size
  blk : ∀ k, k < w.heap.size → ρ k ≠ i → w'.heap[k]? = w.heap[k]?
def Vc (w : World) (g : Nat) (t : TypeId) (cs : List Value) : Prop := w.heap[g]? = some (.cells cs.toArray t (0, 0))
/-- a slice that the call made -/
def NFresh (d : Kd α) (e : Nat) (w0 ws w : World) (v : Value) (xs : List α) : Prop := d.R e w w0.heap.size (fun k => ws.heap.size ≤ k) v xs
/-- a slice of the caller's that is not i's -/
def Fg (d : Kd α) (e : Nat) (ρ0 : Nat → Nat) (ws w0 : World) (i : Nat) (v : Value) (xs : List α) : Prop := ∃ b, b ≠ i ∧ Ow d e ρ0 ws w0.heap.size b v xs
theorem c_starts {c : Code} {t : TypeId} (hi : i ≠ 0) (hW : Wd w0 ρ0 ws) (ho : Va ρ0 ws i g t cs) (h : ∀ w ρ, Wd w0 ρ w → Old (oneOf ρ0 i) ws ρ w → Va ρ w 1 g t cs → (∀ {α : Type} {d : Kd α} {e : Nat} {v : Value} {xs : List α}, Fg d e ρ0 ws w0 i v xs → Ow d e ρ w w0.heap.size 0 v xs) → c.wp P Q a w) : c.wp P Q a ws := by
  refine h ws (oneOf ρ0 i) ⟨hW.below, fun k hk => ?_⟩ ⟨Nat.le_refl _, fun _ _ => rfl, fun _ _ _ => rfl⟩ ⟨ho.blk, by simp [oneOf, ho.rho]⟩ fun ⟨b, hb, hO⟩ => Kd.R_mono hO fun k hk => by simp [oneOf, hk, hb]
  refine hW.own k (fun h0 => hk ?_)
  simp [oneOf, h0, Ne.symm hi]
theorem Old.tr2 (h : Old (oneOf ρ0 i) ws ρ w) (h0 : Tr 0 ρ w ρ' w') (h1 : Tr 1 ρ w ρ' w') : Old (oneOf ρ0 i) ws ρ' w' := by
  have key : ∀ k, k < ws.heap.size → ρ' k = oneOf ρ0 i k ∧ w'.heap[k]? = w.heap[k]? := fun k hk => by
    have hl := Nat.lt_of_lt_of_le hk h.size
    have hr := h.rho k hk
    by_cases hi : ρ0 k = i
    · have e1 : oneOf ρ0 i k = 1 := by simp [oneOf, hi]
      rw [e1] at hr ⊢
      exact h1 k hl hr
    · have e1 : oneOf ρ0 i k = 0 := by simp [oneOf, hi]
      rw [e1] at hr ⊢
      exact h0 k hl hr
  refine ⟨?_, fun k hk => (key k hk).1, fun k hk hz => ((key k hk).2).trans (h.blk k hk hz)⟩
  rcases Nat.eq_zero_or_pos ws.heap.size with hz | hz
  · omega
  · have := (key (ws.heap.size - 1) (by omega)).2
    have hl : ws.heap.size - 1 < w.heap.size := by have := h.size; omega
    rw [Array.getElem?_eq_getElem hl] at this
    have := (Array.getElem?_eq_some_iff.1 this).1
    omega
theorem s_nw (hw : Wd w0 ρ w) (hO : Old (oneOf ρ0 i) ws ρ w) : Nw i ρ0 w0 ws w := ⟨hw.below, hO.size, fun k hk hne => hO.blk k hk (by simp [oneOf, hne])⟩
theorem NFresh.own {d : Kd α} (h : NFresh d e w0 ws w v xs) (K : Nat) : Ow d e (ownr ρ ws K) w w0.heap.size K v xs := Kd.R_mono h fun k hk => own_new hk
theorem NFresh.ro {d : Kd α} (h : NFresh d e w0 ws w v xs) : Ro d w v xs := Kd.R_reads h
theorem src_go {f : FuncId} {args : Array Value} {t : TypeId} {Φ : Value → World → Prop} (K : Nat) (hi : i ≠ 0) (hw : Wd w0 ρ ws) (hV : Va ρ ws i g t cs')
    (hc : Calls P f args ws fun e w => ∃ v, e = .returned v ∧ Nw i ρ w0 ws w ∧ Φ v w) :
    Calls P f args ws fun e w => ∃ v, e = .returned v ∧ ∃ ρ', Wd w0 ρ' w ∧ Adv i ρ ws ρ' w ∧ ((∀ {cs}, Vc w g t cs → Va ρ' w i g t cs) ∧ (∀ {α : Type} {d : Kd α} {e : Nat} {v : Value} {xs : List α}, NFresh d e w0 ws w v xs → Ow d e ρ' w w0.heap.size K v xs) ∧ Φ v w) := by
  refine hc.mono ?_
  rintro e w ⟨v, rfl, hN, hΦ⟩
  refine ⟨v, rfl, ownr ρ ws K, ⟨hN.below, fun k hk => ?_⟩, ⟨hN.size, fun k hk => own_old hk, hN.blk⟩, fun hc => ⟨hc, by rw [own_old hV.lt]; exact hV.rho⟩, fun h => h.own K, hΦ⟩
  rcases Nat.lt_or_ge k ws.heap.size with h | h
  · rw [own_old h] at hk; exact hw.own k hk
  · exact Nat.le_trans hw.below.size h
theorem R_raise {d : Fl α} {B' : Nat} {ok : Nat → Prop} (h : (kf d).R e w B ok v xs) (hB : ∀ k, B ≤ k → ok k → B' ≤ k) : (kf d).R e w B' ok v xs := by
  obtain ⟨h0, inner, ho, hr⟩ := h
  refine ⟨h0, inner, ⟨ho.1, ?_⟩, hr⟩
  rcases ho.2 with h2 | ⟨g, cap, cur, rfl, hg, hh, r⟩
  · exact .inl h2
  · exact .inr ⟨g, cap, cur, rfl, hB g hg (h0 g (by simp [Value.ownBlock])), hh, r⟩
theorem s_ng {d : Fl α} {f : Nat → V1} {idx : List Nat} {rows : List (List α)} (hO : Old (oneOf ρ0 i) ws ρ w) (hj : 2 ≤ j) (hG : Gd d e' e ρ w w0.heap.size j v f idx rows) (hn : idx.Nodup) : GFresh d e' e ws w v (gi idx rows) := by
  have key : ∀ k l, 2 ≤ l → ρ k = l → ws.heap.size ≤ k := fun k l hl h => by
    rcases Nat.lt_or_ge k ws.heap.size with hk | hk
    · exfalso
      have h1 := hO.rho k hk
      have h2 : oneOf ρ0 i k ≤ 1 := by unfold oneOf; split <;> omega
      omega
    · exact hk
  refine ⟨j, f, ρ, idx, rows, rfl, hn, R_raise hG.out fun k _ hk => key k j hj hk, fun r xs hr => R_raise (hG.row r xs hr) fun k _ hk => key k _ (by unfold lab; omega) hk, hG.lt, hG.small⟩
theorem src_gr {f : FuncId} {args : Array Value} {t : TypeId} {d : Fl α} {rows : List (List α)} {Ψ : World → Prop} (K : Nat) (hK : 0 < K ∧ K < 1000) (hi : i ≠ 0) (hw : Wd w0 ρ ws) (hV : Va ρ ws i g t cs')
    (hc : Calls P f args ws fun e1 w => ∃ v, e1 = .returned v ∧ Nw i ρ w0 ws w ∧ Ψ w ∧ ∃ u, u = v ∧ GFresh d e' e ws w u rows) :
    Calls P f args ws fun e1 w => ∃ v, e1 = .returned v ∧ ∃ ρ', Wd w0 ρ' w ∧ Adv i ρ ws ρ' w ∧ ((∀ {cs}, Vc w g t cs → Va ρ' w i g t cs) ∧ Ψ w ∧ ∃ f', Gd d e' e ρ' w w0.heap.size K v f' (List.range rows.length) rows) := by
  refine hc.mono ?_
  rintro e1 w ⟨v, rfl, hN, hΨ, u, rfl, j, f, ρ1, idx, rows', rfl, hn, hG⟩
  let ρ2 : Nat → Nat := fun k => if k < ws.heap.size then ρ k else if norm ρ1 j idx K k = 0 then K else norm ρ1 j idx K k
  have hG2 : Gd d e' e (norm ρ1 j idx K) w ws.heap.size K u (fun t => f (idx.getD t 0)) (List.range idx.length) (gi idx rows') := hG.norm_at hn hK (fun k _ _ => rfl)
  have key : ∀ {γ : Type} {dd : Kd γ} {ee l : Nat} {vv : Value} {zs : List γ}, l ≠ 0 → Ow dd ee (norm ρ1 j idx K) w ws.heap.size l vv zs → Ow dd ee ρ2 w w0.heap.size l vv zs := by
    intro γ dd ee l vv zs hl h
    refine Kd.R_lower (Kd.R_mono (Kd.R_bound h) (fun k hk => ?_)) hw.below.size
    simp only [ρ2]
    rw [if_neg (by have := hk.2.1; omega), if_neg (by rw [hk.1]; exact hl)]
    exact hk.1
  refine ⟨_, rfl, ρ2, ⟨hN.below, fun k hk => ?_⟩, ⟨hN.size, fun k hk => by simp [ρ2, hk], hN.blk⟩, fun hc => ⟨hc, by simp only [ρ2]; rw [if_pos hV.lt]; exact hV.rho⟩, hΨ, fun t => f (idx.getD t 0), ?_⟩
  · rcases Nat.lt_or_ge k ws.heap.size with h | h
    · refine hw.own k (fun h0 => hk ?_)
      simp [ρ2, h, h0]
    · exact Nat.le_trans hw.below.size h
  · rw [gi_len]
    exact ⟨key (by omega) hG2.out, fun r xs hr => key (by unfold lab; omega) (hG2.row r xs hr), hG2.lt, hK⟩
/-- a grid's rows in another slice, which takes the grid's place -/
theorem Gd.move {d : Fl α} {f : Nat → V1} {idx idx' : List Nat} {rows : List (List α)} (hG : Gd d e' e ρ w B i v f idx rows) (hk : Ow (kf (fRef f)) e ρ w B k u idx') (hne : i ≠ k) (hk1 : k < 1000) (he : idx' = idx) : Gd d e' e (relab ρ k i) w B i u f idx rows := by
  subst he
  exact ⟨hk.relab i, fun r xs hr => (hG.row r xs hr).tr (Tr.relab (by unfold lab; omega)), hG.lt, hG.small⟩
theorem Vc.own {t : TypeId} (h : Vc w' g t cs) (hg : w.heap.size ≤ g) (i : Nat) : Va (ownr ρ w i) w' i g t cs := ⟨h, own_new hg⟩
theorem st_fnp {dt : Nat} {f : FuncId} {args : Array Value} {Φ : Value → World → Prop} (i : Nat) (hw : Wd w0 ρ w) (hf : Fr n a L) (hg : o.guard = none) (hd : o.dst = some dt) (hn : dt < n) (hr : (execOp a.eval o).run P w = .ok (.enter f args) w)
    (hc : Calls P f args w fun e w' => ∃ v, e = .returned v ∧ Below w.heap.size w w' ∧ Φ v w')
    (h : ∀ a' v w' ρ', Fr n a' ((dt, v) :: L) → Wd w0 ρ' w' → Ext ρ w ρ' w' → (∀ {t cs g}, w.heap.size ≤ g ∧ Vc w' g t cs → Va ρ' w' i g t cs) → Φ v w' → wpList P ops Q rest a' w') : wpList P ops Q (o :: rest) a w :=
  st_call hf hg hd hn hr hc fun a' v w' hf' hΦ => h a' v w' (ownr ρ w i) hf' (hw.new i hΦ.1) (Ext.new i hΦ.1) (fun hF => hF.2.own hF.1 i) hΦ.2
theorem Va.pout {t : TypeId} (h : Va ρ w i g t cs) (hw : Wd w0 ρ w) (hi : i ≠ 0) : w0.heap.size ≤ g ∧ Vc w g t cs := ⟨hw.own g (by rw [h.rho]; exact hi), h.blk⟩
end Go.Proofs.YtB

