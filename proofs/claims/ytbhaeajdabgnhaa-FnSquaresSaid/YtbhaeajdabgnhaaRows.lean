/-
  No cell of these rows narrows 'for every input' (looked for: loops, veiled, ifaces, maps, wideKeys, modest, calm, conditions, laid).
  DERIVED. THE GIVEN ROWS OF THIS SEAT. 6 by the template 'for every input the law returns true; each argument reads behind the call as it read before'; 0 by the template 'total and deterministic' (their statements: YtbhaeajdabgnhaaTotals.lean).
  GIVEN WITH THE SEED: the statements are not yours to turn. If you find one false, say at which input.
  Laid BY PROGRAM, IN A SANDBOX (cutbox-rows.mjs): the forced cells as the released guide's own fill.sh prints them over the translation e27f85910ba28ca1… (all of the seat's roots in one cut). By AI agents, Wed Nov 11 2026. No macro, syntax, notation, axiom, sorry.
-/
import Derived.Test.YtbhaeajdabgnhaaChecked
import GoSem.Claim
import GoSem.ClaimJoined
import GoSem.ClaimMapViews
import Derived.JoinedTies
import Derived.KernelRfl
namespace Go.Proofs.Ytbhaeajdabgnhaa
/- THE CELL 'sum', in the pinned program and in every row, IS THE sha256 OF THE DUMP (.gsa) THAT YtbhaeajdabgnhaaProg.lean LOADS. Nothing in Lean hashes anything: it is a label: what it is worth is what the hold of that sum in a sandbox is worth. -/
noncomputable def Try.pinned : Pinned := { name := "ytbhaeajdabgnhaa", sum := "e27f85910ba28ca18e08a19caba2f802fabe6edebb78e80dc3675e34a0b47633", checked := Try.checked }
namespace Rows
def none {H : Type} : Left H := { results := [], args := [] }

/-- 'laws.FnSquares': WHATEVER THE INPUT: true; the input reads as it did. -/
def fnSquaresSpec : ChangeSpec := { name := "fnSquares", fn := fun _ => fun
  | [d] => { results := [.lit (.bool true)], args := [d] }
  | _ => none }
def fnSquaresRow : OpenClaim := { program := "ytbhaeajdabgnhaa", sum := "e27f85910ba28ca18e08a19caba2f802fabe6edebb78e80dc3675e34a0b47633", func := "loop.example/g01262/laws.FnSquares", spec := "fnSquares", unfollowed := true, recurses := true, apart := false }
def FnSquaresSaid : Prop := fnSquaresRow.holds Try.pinned (OpenSpec.ofChange fnSquaresSpec)

/-- ITS FALSE NEIGHBOUR: 'it returns false'. Refute it at one input. -/
def fnSquaresWrong : ChangeSpec := { name := "fnSquares", fn := fun _ => fun
  | [d] => { results := [.lit (.bool false)], args := [d] }
  | _ => none }
def FnSquaresWrongFalsely : Prop := fnSquaresRow.holds Try.pinned (OpenSpec.ofChange fnSquaresWrong)

/-- 'laws.FnJoins': WHATEVER THE INPUT: true; the input reads as it did. -/
def fnJoinsSpec : ChangeSpec := { name := "fnJoins", fn := fun _ => fun
  | [d] => { results := [.lit (.bool true)], args := [d] }
  | _ => none }
def fnJoinsRow : OpenClaim := { program := "ytbhaeajdabgnhaa", sum := "e27f85910ba28ca18e08a19caba2f802fabe6edebb78e80dc3675e34a0b47633", func := "loop.example/g01262/laws.FnJoins", spec := "fnJoins", recurses := true, apart := false }
def FnJoinsSaid : Prop := fnJoinsRow.holds Try.pinned (OpenSpec.ofChange fnJoinsSpec)

/-- ITS FALSE NEIGHBOUR: 'it returns false'. Refute it at one input. -/
def fnJoinsWrong : ChangeSpec := { name := "fnJoins", fn := fun _ => fun
  | [d] => { results := [.lit (.bool false)], args := [d] }
  | _ => none }
def FnJoinsWrongFalsely : Prop := fnJoinsRow.holds Try.pinned (OpenSpec.ofChange fnJoinsWrong)

/-- 'laws.FnExactProfileOf': WHATEVER THE INPUT: true; the input reads as it did. -/
def fnExactProfileOfSpec : ChangeSpec := { name := "fnExactProfileOf", fn := fun _ => fun
  | [d] => { results := [.lit (.bool true)], args := [d] }
  | _ => none }
def fnExactProfileOfRow : OpenClaim := { program := "ytbhaeajdabgnhaa", sum := "e27f85910ba28ca18e08a19caba2f802fabe6edebb78e80dc3675e34a0b47633", func := "loop.example/g01262/laws.FnExactProfileOf", spec := "fnExactProfileOf", unfollowed := true, recurses := true, apart := false }
def FnExactProfileOfSaid : Prop := fnExactProfileOfRow.holds Try.pinned (OpenSpec.ofChange fnExactProfileOfSpec)

/-- ITS FALSE NEIGHBOUR: 'it returns false'. Refute it at one input. -/
def fnExactProfileOfWrong : ChangeSpec := { name := "fnExactProfileOf", fn := fun _ => fun
  | [d] => { results := [.lit (.bool false)], args := [d] }
  | _ => none }
def FnExactProfileOfWrongFalsely : Prop := fnExactProfileOfRow.holds Try.pinned (OpenSpec.ofChange fnExactProfileOfWrong)

/-- 'laws.FnExactChangeScheme': WHATEVER THE INPUT: true; the input reads as it did. -/
def fnExactChangeSchemeSpec : ChangeSpec := { name := "fnExactChangeScheme", fn := fun _ => fun
  | [d1, d2, d3, d4] => { results := [.lit (.bool true)], args := [d1, d2, d3, d4] }
  | _ => none }
def fnExactChangeSchemeRow : OpenClaim := { program := "ytbhaeajdabgnhaa", sum := "e27f85910ba28ca18e08a19caba2f802fabe6edebb78e80dc3675e34a0b47633", func := "loop.example/g01262/laws.FnExactChangeScheme", spec := "fnExactChangeScheme", unfollowed := true, recurses := true, apart := false }
def FnExactChangeSchemeSaid : Prop := fnExactChangeSchemeRow.holds Try.pinned (OpenSpec.ofChange fnExactChangeSchemeSpec)

/-- ITS FALSE NEIGHBOUR: 'it returns false'. Refute it at one input. -/
def fnExactChangeSchemeWrong : ChangeSpec := { name := "fnExactChangeScheme", fn := fun _ => fun
  | [d1, d2, d3, d4] => { results := [.lit (.bool false)], args := [d1, d2, d3, d4] }
  | _ => none }
def FnExactChangeSchemeWrongFalsely : Prop := fnExactChangeSchemeRow.holds Try.pinned (OpenSpec.ofChange fnExactChangeSchemeWrong)

/-- 'laws.FnExactStabiliserNumber': WHATEVER THE INPUT: true; the input reads as it did. -/
def fnExactStabiliserNumberSpec : ChangeSpec := { name := "fnExactStabiliserNumber", fn := fun _ => fun
  | [d] => { results := [.lit (.bool true)], args := [d] }
  | _ => none }
def fnExactStabiliserNumberRow : OpenClaim := { program := "ytbhaeajdabgnhaa", sum := "e27f85910ba28ca18e08a19caba2f802fabe6edebb78e80dc3675e34a0b47633", func := "loop.example/g01262/laws.FnExactStabiliserNumber", spec := "fnExactStabiliserNumber", unfollowed := true, recurses := true, apart := false }
def FnExactStabiliserNumberSaid : Prop := fnExactStabiliserNumberRow.holds Try.pinned (OpenSpec.ofChange fnExactStabiliserNumberSpec)

/-- ITS FALSE NEIGHBOUR: 'it returns false'. Refute it at one input. -/
def fnExactStabiliserNumberWrong : ChangeSpec := { name := "fnExactStabiliserNumber", fn := fun _ => fun
  | [d] => { results := [.lit (.bool false)], args := [d] }
  | _ => none }
def FnExactStabiliserNumberWrongFalsely : Prop := fnExactStabiliserNumberRow.holds Try.pinned (OpenSpec.ofChange fnExactStabiliserNumberWrong)

/-- 'laws.FnExactAreEquivalent': WHATEVER THE INPUT: true; the input reads as it did. -/
def fnExactAreEquivalentSpec : ChangeSpec := { name := "fnExactAreEquivalent", fn := fun _ => fun
  | [d1, d2] => { results := [.lit (.bool true)], args := [d1, d2] }
  | _ => none }
def fnExactAreEquivalentRow : OpenClaim := { program := "ytbhaeajdabgnhaa", sum := "e27f85910ba28ca18e08a19caba2f802fabe6edebb78e80dc3675e34a0b47633", func := "loop.example/g01262/laws.FnExactAreEquivalent", spec := "fnExactAreEquivalent", unfollowed := true, recurses := true, apart := false }
def FnExactAreEquivalentSaid : Prop := fnExactAreEquivalentRow.holds Try.pinned (OpenSpec.ofChange fnExactAreEquivalentSpec)

/-- ITS FALSE NEIGHBOUR: 'it returns false'. Refute it at one input. -/
def fnExactAreEquivalentWrong : ChangeSpec := { name := "fnExactAreEquivalent", fn := fun _ => fun
  | [d1, d2] => { results := [.lit (.bool false)], args := [d1, d2] }
  | _ => none }
def FnExactAreEquivalentWrongFalsely : Prop := fnExactAreEquivalentRow.holds Try.pinned (OpenSpec.ofChange fnExactAreEquivalentWrong)

/- THE SECOND FORM. 'bulk': how many values and letters a reading holds, each counted each time it is reached (what is shared counts as often as it is met; a slice's spare places count too). A statement '..UptoSaid' is the law's where the arguments, and the package variables that the reading takes, are together of bulk at most 1048576: NARROWER than '..Said'. Prove '..Said' where nothing that the law and all that it calls make is longer than what came in: it says more and counts as full. Else prove '..UptoSaid'. A law counts once. -/
mutual
def uptoBulk {H : Type} : DataW H → Nat
  | .lit (.string bytes) => bytes.length + 1
  | .lit _ => 1
  | .nil => 1
  | .ptr d => uptoBulk d + 1
  | .slice elems spare => uptoBulkAll elems + uptoBulkAll spare + 1
  | .agg parts => uptoBulkAll parts + 1
  | .iface _ d => uptoBulk d + 1
  | .map entries => uptoBulkEntries entries + 1
  | .held _ => 1
def uptoBulkAll {H : Type} : List (DataW H) → Nat
  | [] => 0
  | d :: r => uptoBulk d + uptoBulkAll r
def uptoBulkEntries {H : Type} : List (Lit × DataW H) → Nat
  | [] => 0
  | x :: r => uptoBulkEntry x + uptoBulkEntries r
def uptoBulkEntry {H : Type} : Lit × DataW H → Nat
  | (.string bytes, d) => bytes.length + uptoBulk d + 1
  | (_, d) => uptoBulk d + 1
 end
def uptoSmall : (H : Type) → List (DataW H) → Bool := fun _ ds => decide (uptoBulkAll ds ≤ 1048576)
def OpenSpec.upto (s : _root_.Go.ChangeSpec) : _root_.Go.OpenSpec := { _root_.Go.OpenSpec.ofChange s with cond := some uptoSmall }

/-- 'laws.FnSquares', WHERE WHAT IT READS IS OF BULK AT MOST 1048576: true; the input reads as it did. -/
def fnSquaresUptoRow : OpenClaim := { program := "ytbhaeajdabgnhaa", sum := "e27f85910ba28ca18e08a19caba2f802fabe6edebb78e80dc3675e34a0b47633", func := "loop.example/g01262/laws.FnSquares", spec := "fnSquares", unfollowed := true, recurses := true, apart := false, narrowed := true }
def FnSquaresUptoSaid : Prop := fnSquaresUptoRow.holds Try.pinned (OpenSpec.upto fnSquaresSpec)

/-- 'laws.FnJoins', WHERE WHAT IT READS IS OF BULK AT MOST 1048576: true; the input reads as it did. -/
def fnJoinsUptoRow : OpenClaim := { program := "ytbhaeajdabgnhaa", sum := "e27f85910ba28ca18e08a19caba2f802fabe6edebb78e80dc3675e34a0b47633", func := "loop.example/g01262/laws.FnJoins", spec := "fnJoins", recurses := true, apart := false, narrowed := true }
def FnJoinsUptoSaid : Prop := fnJoinsUptoRow.holds Try.pinned (OpenSpec.upto fnJoinsSpec)

/-- 'laws.FnExactProfileOf', WHERE WHAT IT READS IS OF BULK AT MOST 1048576: true; the input reads as it did. -/
def fnExactProfileOfUptoRow : OpenClaim := { program := "ytbhaeajdabgnhaa", sum := "e27f85910ba28ca18e08a19caba2f802fabe6edebb78e80dc3675e34a0b47633", func := "loop.example/g01262/laws.FnExactProfileOf", spec := "fnExactProfileOf", unfollowed := true, recurses := true, apart := false, narrowed := true }
def FnExactProfileOfUptoSaid : Prop := fnExactProfileOfUptoRow.holds Try.pinned (OpenSpec.upto fnExactProfileOfSpec)

/-- 'laws.FnExactChangeScheme', WHERE WHAT IT READS IS OF BULK AT MOST 1048576: true; the input reads as it did. -/
def fnExactChangeSchemeUptoRow : OpenClaim := { program := "ytbhaeajdabgnhaa", sum := "e27f85910ba28ca18e08a19caba2f802fabe6edebb78e80dc3675e34a0b47633", func := "loop.example/g01262/laws.FnExactChangeScheme", spec := "fnExactChangeScheme", unfollowed := true, recurses := true, apart := false, narrowed := true }
def FnExactChangeSchemeUptoSaid : Prop := fnExactChangeSchemeUptoRow.holds Try.pinned (OpenSpec.upto fnExactChangeSchemeSpec)

/-- 'laws.FnExactStabiliserNumber', WHERE WHAT IT READS IS OF BULK AT MOST 1048576: true; the input reads as it did. -/
def fnExactStabiliserNumberUptoRow : OpenClaim := { program := "ytbhaeajdabgnhaa", sum := "e27f85910ba28ca18e08a19caba2f802fabe6edebb78e80dc3675e34a0b47633", func := "loop.example/g01262/laws.FnExactStabiliserNumber", spec := "fnExactStabiliserNumber", unfollowed := true, recurses := true, apart := false, narrowed := true }
def FnExactStabiliserNumberUptoSaid : Prop := fnExactStabiliserNumberUptoRow.holds Try.pinned (OpenSpec.upto fnExactStabiliserNumberSpec)

/-- 'laws.FnExactAreEquivalent', WHERE WHAT IT READS IS OF BULK AT MOST 1048576: true; the input reads as it did. -/
def fnExactAreEquivalentUptoRow : OpenClaim := { program := "ytbhaeajdabgnhaa", sum := "e27f85910ba28ca18e08a19caba2f802fabe6edebb78e80dc3675e34a0b47633", func := "loop.example/g01262/laws.FnExactAreEquivalent", spec := "fnExactAreEquivalent", unfollowed := true, recurses := true, apart := false, narrowed := true }
def FnExactAreEquivalentUptoSaid : Prop := fnExactAreEquivalentUptoRow.holds Try.pinned (OpenSpec.upto fnExactAreEquivalentSpec)

end Rows
end Go.Proofs.Ytbhaeajdabgnhaa
