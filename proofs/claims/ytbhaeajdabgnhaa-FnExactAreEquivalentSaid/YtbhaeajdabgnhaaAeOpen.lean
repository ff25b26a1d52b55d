/- A law's scheme argument, opened: its numbers, and its slice of products as it reads. -/
import Derived.Test.YtbhaeajdabgnhaaAeT
import Derived.Test.YtbhaeajdabgnhaaAeBB1
set_option linter.unusedVariables false
set_option linter.unusedSimpArgs false
namespace Go.Proofs.YtB
open Go Go.RowKit Go.Proofs Go.ChangeShapes Go.WideShapes
variable {H : Type} {encd : TypeId × Value → H} {w : World} {base : Nat} {spare : Nat → Bool} {held : Bool}
set_option maxRecDepth 20000
theorem Rd.weak {P : Program} {t : TypeId} {α : Type} {d : Fl α} {ok : α → Prop} (h : Rd P t d ok) : Rd P t d (fun _ => True) := by
  intro H encd w base spare held fuel cs x hx
  obtain ⟨a, h1, _⟩ := h hx
  exact ⟨a, h1, trivial⟩
theorem rd5 : Rd Try.prog 5 fU8 (fun _ => True) := Rd.u8 Try.underlying5
theorem rd2 : Rd Try.prog 2 fI64 (fun n => -9223372036854775808 ≤ n ∧ n ≤ 9223372036854775807) := Rd.i64 Try.underlying2
theorem rd79 : Rd Try.prog 79 cForm (fun _ => True) := Rd.weak (Rd.vec (m := 9) Try.underlying79 (by kernel_rfl) (by kernel_rfl) rd5)
theorem rd128 : Rd Try.prog 128 cProd (fun _ => True) := Rd.weak (Rd.three (e := 79) Try.underlying128 ⟨rfl, rfl, rfl⟩ ⟨rfl, rfl, rfl⟩ (by kernel_rfl) (by kernel_rfl) rd79)
theorem open_sch {r : Reach} {b0 : Nat} {v : Value} {d : DataW H} {p : List MemPlace} (hv : Value.okWide Try.prog w r b0 48 v) (h : DataW.Trod encd Try.prog w base spare held 48 v d p) :
    ∃ (a : Sch) (va : Value), v = .agg ([.int .i64 a.p, .int .i64 a.n, .int .i64 a.m, .int .i64 a.k, va]).toArray ∧ Ro (kf cProd) w va a.ps := by
  obtain ⟨cs, rfl, hsz⟩ := okWide_struct Try.underlying48 hv
  obtain ⟨l⟩ := cs
  have h5 : l.length = 5 := hsz.trans (by kernel_rfl)
  match l, h5 with
  | [c0, c1, c2, c3, c4], _ =>
    obtain ⟨fuel, hf⟩ := h
    obtain ⟨xs, n, _, hx, _, hlen, hg⟩ := DataW.trod_struct Try.underlying48 hf
    have hl : xs.length = 5 := hlen
    have g0 := hg 0 _ rfl
    have g1 := hg 1 _ rfl
    have g2 := hg 2 _ rfl
    have g3 := hg 3 _ rfl
    have g4 := hg 4 _ rfl
    have k2 : Try.prog.cellsOf 2 = 1 := by kernel_rfl
    have k46 : Try.prog.cellsOf 46 = 1 := by kernel_rfl
    rw [List.getElem?_eq_getElem (by omega)] at g0 g1 g2 g3 g4
    obtain ⟨x0, e0, _⟩ := rd2 g0
    obtain ⟨x1, e1, _⟩ := rd2 g1
    obtain ⟨x2, e2, _⟩ := rd2 g2
    obtain ⟨x3, e3, _⟩ := rd2 g3
    have e4 : (([c0, c1, c2, c3, c4] : List Value).drop 4).take (Try.prog.cellsOf 46) = [c4] := by rw [k46]; rfl
    have g4' : DataW.trod encd Try.prog w base spare held n 46 [c4] = some xs[4] := by rw [← e4]; exact g4
    obtain ⟨ps, hr, _⟩ := Rd.slice Try.underlying46 (by kernel_rfl) rd128 g4'
    have q0 : [c0] = fI64.enc x0 := by rw [← e0]; show _ = (([c0, c1, c2, c3, c4] : List Value).drop 0).take (Try.prog.cellsOf 2); rw [k2]; rfl
    have q1 : [c1] = fI64.enc x1 := by rw [← e1]; show _ = (([c0, c1, c2, c3, c4] : List Value).drop 1).take (Try.prog.cellsOf 2); rw [k2]; rfl
    have q2 : [c2] = fI64.enc x2 := by rw [← e2]; show _ = (([c0, c1, c2, c3, c4] : List Value).drop 2).take (Try.prog.cellsOf 2); rw [k2]; rfl
    have q3 : [c3] = fI64.enc x3 := by rw [← e3]; show _ = (([c0, c1, c2, c3, c4] : List Value).drop 3).take (Try.prog.cellsOf 2); rw [k2]; rfl
    simp only [fI64, List.cons.injEq, and_true] at q0 q1 q2 q3
    subst q0; subst q1; subst q2; subst q3
    exact ⟨⟨x0, x1, x2, x3, ps⟩, c4, rfl, hr⟩
end Go.Proofs.YtB
