/- Reading a slice of bytes that came in. -/
import Derived.Test.YtbhaeajdabgnhaaSqOpen
set_option linter.unusedVariables false
set_option maxRecDepth 20000
namespace Go.Proofs.YtB
open Go Go.RowKit Go.Proofs Go.ChangeShapes Go.WideShapes
variable {H : Type} {encd : TypeId × Value → H} {w : World} {base : Nat} {spare : Nat → Bool} {held : Bool}
theorem open_u8s {r : Reach} {b0 : Nat} {v : Value} {d : DataW H} {p : List MemPlace} (hv : Value.okWide Try.prog w r b0 22 v) (h : DataW.Trod encd Try.prog w base spare held 22 v d p) : ∃ xs : List UInt8, Ro (kf fU8) w v xs := by
  obtain ⟨A, n, c, rfl⟩ := okWide_slice Try.underlying22 hv
  obtain ⟨fuel, hf⟩ := h
  obtain ⟨xs, hr, _⟩ := Rd.slice Try.underlying22 (by kernel_rfl) rd5 hf
  exact ⟨xs, hr⟩
end Go.Proofs.YtB
