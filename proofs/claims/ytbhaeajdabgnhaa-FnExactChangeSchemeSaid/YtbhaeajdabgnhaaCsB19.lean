/- Words of this seat's own: function values with cells of their maker; a field of a struct in hand. -/
import Derived.Test.YtbhaeajdabgnhaaCsB18
set_option linter.unusedVariables false
set_option linter.unusedSimpArgs false
set_option linter.unusedSectionVars false
namespace Go.Proofs.YtB
open Go Go.RowKit
open Go.Proofs.YtbhaeajdabgnhaaW.PrintWords
variable {P : Program} {n : Nat} {a : Act} {L : List (Nat × Value)} {w w' w0 ws : World} {Q : Exit → Act → World → Prop} {ops : Array Oper} {rest : List Oper} {o : Oper}
variable {x y : Operand} {p q : Int} {T T' ty : TypeId} {pos : String} {af : Array Edge} {gd : Option (Nat × Bool)} {dd : Option Tmp} {ad : Addr} {k : Nat} {cs : List Value} {m : Nat}
variable {ρ ρ' ρ0 : Nat → Nat} {i j g e e' B : Nat} {v u : Value}
theorem r_mkfn {f : FuncId} {l : List Operand} {vs : List Value} (hf : Fr n a L) (hx : evs L l = some vs) :
    (execOp a.eval ⟨dd, .makeFunc (.func f) #[] l.toArray, ty, pos, af, gd⟩).run P w = .ok (.value (.func (.func f) #[] vs.toArray)) w := by
  have hm : l.map a.eval = vs := by
    have h := evs_map hx
    clear hx
    induction l generalizing vs with
    | nil => cases vs with
      | nil => rfl
      | cons => cases h
    | cons o l ih => cases vs with
      | nil => cases h
      | cons u vs =>
        simp only [List.map_cons, List.cons.injEq] at h
        rw [List.map_cons, hf.ev h.1, ih h.2]
  simp [execOp, Instr.makeFunc, hm]
theorem r_fnc {f : FuncId} {ats : Array TypeId} {l : List Operand} {vs cs : List Value} {t : Nat} (he : En P f) (hf : Fr n a L) (ht : look L t = some (.func (.func f) #[] cs.toArray)) (hx : evs L l = some vs) :
    (execOp a.eval ⟨dd, .call ⟨.value (.tmp t), l.toArray, ats⟩, ty, pos, af, gd⟩).run P w = .ok (.enter f (vs ++ cs).toArray) w := by
  obtain ⟨fn, hfn, hnm, hb⟩ := he.h
  have hx' := evs_map hx
  clear hx
  have hm : l.map a.eval = vs := by
    clear hfn hnm hb he
    have hx := hx'
    clear hx'
    induction l generalizing vs with
    | nil => cases vs with
      | nil => rfl
      | cons => cases hx
    | cons o l ih => cases vs with
      | nil => cases hx
      | cons u vs =>
        simp only [List.map_cons, List.cons.injEq] at hx
        rw [List.map_cons, hf.ev hx.1, ih hx.2]
  have h1 : ¬ fn.name = "runtime.NumGoroutine" := by simpa using hnm
  have h2 : ¬ fn.body = none := by
    intro e
    rw [e] at hb
    cases hb
  have h3 : a.eval (.tmp t) = .func (.func f) #[] cs.toArray := hf.ev ht
  simp [execOp, resolve, h3, Deferred.ofValue, invoke, callFunc, hfn, h1, h2, hm]
theorem Va.relab {t : TypeId} (h : Va ρ w j g t cs) (b : Nat) : Va (relab ρ j b) w b g t cs := ⟨h.blk, by unfold YtB.relab; rw [if_pos h.rho]⟩
end Go.Proofs.YtB
