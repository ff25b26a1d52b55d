/- Words of this seat's own: loops round by round; grids made at once; values of literals, reckoned. -/
import Derived.Test.YtbhaeajdabgnhaaCsB23
set_option linter.unusedVariables false
set_option linter.unusedSimpArgs false
set_option linter.unusedSectionVars false
namespace Go.Proofs.YtB
open Go Go.RowKit
open Go.Proofs.YtbhaeajdabgnhaaW.PrintWords
variable {P : Program} {n : Nat} {a : Act} {L : List (Nat × Value)} {w w' w0 ws : World} {Q : Exit → Act → World → Prop} {ops : Array Oper} {rest : List Oper} {o : Oper}
variable {x y : Operand} {p q : Int} {T T' ty : TypeId} {pos : String} {af : Array Edge} {gd : Option (Nat × Bool)} {dd : Option Tmp} {ad : Addr} {k : Nat} {m : Nat}
variable {ρ ρ' ρ0 : Nat → Nat} {i j g e e' B : Nat} {α β : Type} {v u : Value} {d : Fl α}
/-- a loop at its round's start -/
def Lp (P : Program) (c : Code) (Q : Exit → Act → World → Prop) (a : Act) (w : World) : Prop :=
  ∀ (b : Frame) (kk : List Item) (cs : List Frame), ∃ e a' w', Q e a' w' ∧ Arrives P (lone (b.at a (.code c :: .inLoop c :: kk)) cs w) b kk cs e a' w'
def Unr (P : Program) (c : Code) (Q : Exit → Act → World → Prop) (e : Exit) (a : Act) (w : World) : Prop := (e = .normal ∧ Lp P c Q a w) ∨ (e ≠ .normal ∧ Q e a w)
theorem Lp.go {c : Code} (h : c.wp P (Unr P c Q) a w) : Lp P c Q a w := by
  intro b kk cs
  obtain ⟨e, a₁, w₁, hq, harr⟩ := h b (.inLoop c :: kk) cs
  rcases hq with ⟨rfl, hq⟩ | ⟨hne, hq⟩
  · obtain ⟨e₂, a₂, w₂, hq₂, harr₂⟩ := hq b kk cs
    exact ⟨e₂, a₂, w₂, hq₂, .of_steps (Steps.trans harr (.one step_inLoop)) harr₂⟩
  · exact ⟨e, a₁, w₁, hq, .pass (x := .inLoop c) rfl (fun _ _ => .inl hne) harr⟩
theorem c_unr {c : Code} (h : c.wp P (Unr P c Q) a w) : (Code.loop c).wp P Q a w := by
  intro b kk cs
  obtain ⟨e, a', w', hq, harr⟩ := Lp.go h b kk cs
  exact ⟨e, a', w', hq, .of_steps (.one step_loop) harr⟩
theorem u_n {c : Code} (h : c.wp P (Unr P c Q) a w) : Unr P c Q .normal a w := .inl ⟨rfl, Lp.go h⟩
theorem u_x {c : Code} {id : Nat} (h : Q (.exit id) a w) : Unr P c Q (.exit id) a w := .inr ⟨by simp, h⟩
theorem u_r {c : Code} (h : Q .ret a w) : Unr P c Q .ret a w := .inr ⟨by simp, h⟩
/-- make([][]T, n): n rows that are nil, one and the same -/
def nilV : V1 := ⟨.slice none 0 0, rfl⟩
theorem Gd.made (h : Ow (kf (fRef fun _ => nilV)) e ρ w B i v (List.replicate m 0)) (hi : 0 < i ∧ i < 1000) : Gd d e' e ρ w B i v (fun _ => nilV) (List.replicate m 0) [[]] := by
  refine ⟨h, fun r xs hr => ?_, fun r hr => by rw [List.eq_of_mem_replicate hr]; exact Nat.zero_lt_one, hi⟩
  cases r with
  | zero =>
    have : [] = xs := by simpa using hr
    subst this
    exact Ow.nil _ _ _ _ _ _
  | succ r => simp at hr
theorem r_fold {v v' : Value} (h : (execOp a.eval o).run P w = .ok (.value v) w) (hv : v = v') : (execOp a.eval o).run P w = .ok (.value v') w := hv ▸ h
theorem one3 {u v z : Value} (h1 : u.oneCell' = true) (h2 : v.oneCell' = true) (h3 : z.oneCell' = true) : ∀ x ∈ [u, v, z], x.oneCell' = true := by
  intro x hx
  simp only [List.mem_cons, List.not_mem_nil, or_false] at hx
  rcases hx with rfl | rfl | rfl <;> assumption
end Go.Proofs.YtB
