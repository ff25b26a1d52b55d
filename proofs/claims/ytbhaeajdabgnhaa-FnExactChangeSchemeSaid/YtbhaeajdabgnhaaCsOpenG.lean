/- A law's argument of rows of numbers, opened. -/
import Derived.Test.YtbhaeajdabgnhaaCsOpen
set_option linter.unusedVariables false
set_option linter.unusedSimpArgs false
namespace Go.Proofs.YtB
open Go Go.RowKit Go.Proofs Go.ChangeShapes Go.WideShapes
variable {H : Type} {encd : TypeId × Value → H} {w : World} {base : Nat} {spare : Nat → Bool} {held : Bool}
set_option maxRecDepth 20000
theorem Rd.slice2 {P : Program} {t e e2 : TypeId} {α : Type} {d : Fl α} {ok : α → Prop} (hT : P.underlying t = some (.slice e)) (hTe : P.underlying e = some (.slice e2)) (hc : P.cellsOf e = 1) (hc2 : P.cellsOf e2 = d.n) (he : Rd P e2 d ok) {fuel : Nat} {v : Value} {x : DataW H × List MemPlace} (h : DataW.trod encd P w base spare held fuel t [v] = some x) :
    ∃ xs : List (List α), Ro (Go.Proofs.YtbhaeajdabgnhaaW.PrintWords.Kd.slice e2 (kf d)) w v xs := by
  rcases DataW.trod_slice hT h with ⟨h1, _⟩ | ⟨a, len, cap, elems, rest, n, _, h1, _, _, hlc, hcap, hel, hi, _, _⟩
  · injection h1 with h1 _
    subst h1
    exact ⟨[], Ro.nil _ _ _⟩
  · injection h1 with h1 _
    subst h1
    rw [hc] at hi
    obtain ⟨l, hll, hq⟩ := pick_list (Q := fun i (b : List α) => ∃ u, w.cell? (a.add (i * 1)) = some u ∧ Ro (kf d) w u b) len (fun i hil => by
      have h2 := hi i hil
      rw [List.getElem?_eq_getElem (by omega)] at h2
      obtain ⟨cs, hcs, h3⟩ := Option.bind_eq_some_iff.1 h2
      obtain ⟨hlen, _, h4⟩ := World.cells?_some hcs
      match cs, hlen with
      | [u], _ =>
        obtain ⟨b, hb, _⟩ := Rd.slice hTe hc2 he h3
        refine ⟨b, u, ?_, hb⟩
        have := h4 0 (by omega)
        rw [Go.Addr.add_add, Nat.add_zero] at this
        simpa using this)
    have hcap' : cap ≤ 9223372036854775807 := hcap
    refine ⟨l, ⟨some a, cap, by rw [hll], by omega, rfl, by omega, fun _ => ⟨a, rfl, fun j p hj => ?_⟩⟩⟩
    obtain ⟨hjl, rfl⟩ := List.getElem?_eq_some_iff.1 hj
    obtain ⟨u, h5, h6⟩ := hq j hjl
    refine ⟨[u], rfl, h6.K e2, fun i u' hu => ?_⟩
    cases i with
    | zero =>
      have : u = u' := by simpa using hu
      subst this
      exact h5
    | succ i => simp at hu
theorem open_grid {r : Reach} {b0 : Nat} {v : Value} {d : DataW H} {p : List MemPlace} (hv : Value.okWide Try.prog w r b0 24 v) (h : DataW.Trod encd Try.prog w base spare held 24 v d p) : ∃ xs : List (List Int), Ro (Go.Proofs.YtbhaeajdabgnhaaW.PrintWords.Kd.slice 2 (kf fI64)) w v xs := by
  obtain ⟨A, n, c, rfl⟩ := okWide_slice Try.underlying24 hv
  obtain ⟨fuel, hf⟩ := h
  exact Rd.slice2 Try.underlying24 Try.underlying36 (by kernel_rfl) (by kernel_rfl) rd2 hf
theorem Ro.rows_le {α : Type} {e : Nat} {d : Go.Proofs.YtbhaeajdabgnhaaW.PrintWords.Kd α} {v : Value} {xs : List (List α)} (h : Ro (Go.Proofs.YtbhaeajdabgnhaaW.PrintWords.Kd.slice e d) w v xs) : ∀ x ∈ xs, x.length ≤ 9223372036854775807 := by
  intro x hx
  obtain ⟨j, hj, rfl⟩ := List.mem_iff_getElem.1 hx
  obtain ⟨ad, c, u, _, _, hr⟩ := Ro.el_row h (p := (j : Int)) (by omega) (by omega)
  have := hr.lenle
  have e : gl [] xs (j : Int) = xs[j] := by
    unfold gl
    rw [Int.toNat_natCast, List.getD_eq_getElem?_getD, List.getElem?_eq_getElem hj]; rfl
  rwa [e] at this
end Go.Proofs.YtB
