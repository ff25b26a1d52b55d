/-
  No cell of these rows narrows 'for every input' (looked for: loops, veiled, ifaces, maps, wideKeys, modest, calm, conditions, laid).
  DERIVED. THE GIVEN ROWS OF THIS SEAT. 10 by the template 'for every input the law returns true; each argument reads behind the call as it read before'; 0 by the template 'total and deterministic' (their statements: YtaaghemmkbgldaaTotals.lean).
  GIVEN WITH THE SEED: the statements are not yours to turn. If you find one false, say at which input.
  Laid BY PROGRAM, IN A SANDBOX (cutbox-rows.mjs): the forced cells as the released guide's own fill.sh prints them over the translation 7347cd4320744eb0… (all of the seat's roots in one cut). By AI agents, Wed Nov 11 2026. No macro, syntax, notation, axiom, sorry.
-/
import Derived.Test.YtaaghemmkbgldaaChecked
import GoSem.Claim
import GoSem.ClaimJoined
import GoSem.ClaimMapViews
import Derived.JoinedTies
import Derived.KernelRfl
namespace Go.Proofs.Ytaaghemmkbgldaa
/- THE CELL 'sum', in the pinned program and in every row, IS THE sha256 OF THE DUMP (.gsa) THAT YtaaghemmkbgldaaProg.lean LOADS. Nothing in Lean hashes anything: it is a label: what it is worth is what the hold of that sum in a sandbox is worth. -/
noncomputable def Try.pinned : Pinned := { name := "ytaaghemmkbgldaa", sum := "7347cd4320744eb02b7a6f0e2968950b7ceee5a23205b27ef9b7422e9ed8f174", checked := Try.checked }
namespace Rows
def none {H : Type} : Left H := { results := [], args := [] }

/-- 'laws.FnExactJoinCols': WHATEVER THE INPUT: true; the input reads as it did. -/
def fnExactJoinColsSpec : ChangeSpec := { name := "fnExactJoinCols", fn := fun _ => fun
  | [d1, d2] => { results := [.lit (.bool true)], args := [d1, d2] }
  | _ => none }
def fnExactJoinColsRow : OpenClaim := { program := "ytaaghemmkbgldaa", sum := "7347cd4320744eb02b7a6f0e2968950b7ceee5a23205b27ef9b7422e9ed8f174", func := "loop.example/g01262/laws.FnExactJoinCols", spec := "fnExactJoinCols", apart := false }
def FnExactJoinColsSaid : Prop := fnExactJoinColsRow.holds Try.pinned (OpenSpec.ofChange fnExactJoinColsSpec)

/-- ITS FALSE NEIGHBOUR: 'it returns false'. Refute it at one input. -/
def fnExactJoinColsWrong : ChangeSpec := { name := "fnExactJoinCols", fn := fun _ => fun
  | [d1, d2] => { results := [.lit (.bool false)], args := [d1, d2] }
  | _ => none }
def FnExactJoinColsWrongFalsely : Prop := fnExactJoinColsRow.holds Try.pinned (OpenSpec.ofChange fnExactJoinColsWrong)

/-- 'laws.FnExactJoinInner': WHATEVER THE INPUT: true; the input reads as it did. -/
def fnExactJoinInnerSpec : ChangeSpec := { name := "fnExactJoinInner", fn := fun _ => fun
  | [d1, d2] => { results := [.lit (.bool true)], args := [d1, d2] }
  | _ => none }
def fnExactJoinInnerRow : OpenClaim := { program := "ytaaghemmkbgldaa", sum := "7347cd4320744eb02b7a6f0e2968950b7ceee5a23205b27ef9b7422e9ed8f174", func := "loop.example/g01262/laws.FnExactJoinInner", spec := "fnExactJoinInner", apart := false }
def FnExactJoinInnerSaid : Prop := fnExactJoinInnerRow.holds Try.pinned (OpenSpec.ofChange fnExactJoinInnerSpec)

/-- ITS FALSE NEIGHBOUR: 'it returns false'. Refute it at one input. -/
def fnExactJoinInnerWrong : ChangeSpec := { name := "fnExactJoinInner", fn := fun _ => fun
  | [d1, d2] => { results := [.lit (.bool false)], args := [d1, d2] }
  | _ => none }
def FnExactJoinInnerWrongFalsely : Prop := fnExactJoinInnerRow.holds Try.pinned (OpenSpec.ofChange fnExactJoinInnerWrong)

/-- 'laws.FnExactPlusMove': WHATEVER THE INPUT: true; the input reads as it did. -/
def fnExactPlusMoveSpec : ChangeSpec := { name := "fnExactPlusMove", fn := fun _ => fun
  | [d1, d2, d3] => { results := [.lit (.bool true)], args := [d1, d2, d3] }
  | _ => none }
def fnExactPlusMoveRow : OpenClaim := { program := "ytaaghemmkbgldaa", sum := "7347cd4320744eb02b7a6f0e2968950b7ceee5a23205b27ef9b7422e9ed8f174", func := "loop.example/g01262/laws.FnExactPlusMove", spec := "fnExactPlusMove", unfollowed := true, recurses := true, apart := false }
def FnExactPlusMoveSaid : Prop := fnExactPlusMoveRow.holds Try.pinned (OpenSpec.ofChange fnExactPlusMoveSpec)

/-- ITS FALSE NEIGHBOUR: 'it returns false'. Refute it at one input. -/
def fnExactPlusMoveWrong : ChangeSpec := { name := "fnExactPlusMove", fn := fun _ => fun
  | [d1, d2, d3] => { results := [.lit (.bool false)], args := [d1, d2, d3] }
  | _ => none }
def FnExactPlusMoveWrongFalsely : Prop := fnExactPlusMoveRow.holds Try.pinned (OpenSpec.ofChange fnExactPlusMoveWrong)

/-- 'laws.FnExactSplitProduct': WHATEVER THE INPUT: true; the input reads as it did. -/
def fnExactSplitProductSpec : ChangeSpec := { name := "fnExactSplitProduct", fn := fun _ => fun
  | [d1, d2, d3, d4] => { results := [.lit (.bool true)], args := [d1, d2, d3, d4] }
  | _ => none }
def fnExactSplitProductRow : OpenClaim := { program := "ytaaghemmkbgldaa", sum := "7347cd4320744eb02b7a6f0e2968950b7ceee5a23205b27ef9b7422e9ed8f174", func := "loop.example/g01262/laws.FnExactSplitProduct", spec := "fnExactSplitProduct", apart := false }
def FnExactSplitProductSaid : Prop := fnExactSplitProductRow.holds Try.pinned (OpenSpec.ofChange fnExactSplitProductSpec)

/-- ITS FALSE NEIGHBOUR: 'it returns false'. Refute it at one input. -/
def fnExactSplitProductWrong : ChangeSpec := { name := "fnExactSplitProduct", fn := fun _ => fun
  | [d1, d2, d3, d4] => { results := [.lit (.bool false)], args := [d1, d2, d3, d4] }
  | _ => none }
def FnExactSplitProductWrongFalsely : Prop := fnExactSplitProductRow.holds Try.pinned (OpenSpec.ofChange fnExactSplitProductWrong)

/-- 'laws.FnExactFlipProducts': WHATEVER THE INPUT: true; the input reads as it did. -/
def fnExactFlipProductsSpec : ChangeSpec := { name := "fnExactFlipProducts", fn := fun _ => fun
  | [d1, d2, d3, d4, d5] => { results := [.lit (.bool true)], args := [d1, d2, d3, d4, d5] }
  | _ => none }
def fnExactFlipProductsRow : OpenClaim := { program := "ytaaghemmkbgldaa", sum := "7347cd4320744eb02b7a6f0e2968950b7ceee5a23205b27ef9b7422e9ed8f174", func := "loop.example/g01262/laws.FnExactFlipProducts", spec := "fnExactFlipProducts", unfollowed := true, recurses := true, apart := false }
def FnExactFlipProductsSaid : Prop := fnExactFlipProductsRow.holds Try.pinned (OpenSpec.ofChange fnExactFlipProductsSpec)

/-- ITS FALSE NEIGHBOUR: 'it returns false'. Refute it at one input. -/
def fnExactFlipProductsWrong : ChangeSpec := { name := "fnExactFlipProducts", fn := fun _ => fun
  | [d1, d2, d3, d4, d5] => { results := [.lit (.bool false)], args := [d1, d2, d3, d4, d5] }
  | _ => none }
def FnExactFlipProductsWrongFalsely : Prop := fnExactFlipProductsRow.holds Try.pinned (OpenSpec.ofChange fnExactFlipProductsWrong)

/-- 'laws.FnExactRanksOf': WHATEVER THE INPUT: true; the input reads as it did. -/
def fnExactRanksOfSpec : ChangeSpec := { name := "fnExactRanksOf", fn := fun _ => fun
  | [d] => { results := [.lit (.bool true)], args := [d] }
  | _ => none }
def fnExactRanksOfRow : OpenClaim := { program := "ytaaghemmkbgldaa", sum := "7347cd4320744eb02b7a6f0e2968950b7ceee5a23205b27ef9b7422e9ed8f174", func := "loop.example/g01262/laws.FnExactRanksOf", spec := "fnExactRanksOf", unfollowed := true, recurses := true, apart := false }
def FnExactRanksOfSaid : Prop := fnExactRanksOfRow.holds Try.pinned (OpenSpec.ofChange fnExactRanksOfSpec)

/-- ITS FALSE NEIGHBOUR: 'it returns false'. Refute it at one input. -/
def fnExactRanksOfWrong : ChangeSpec := { name := "fnExactRanksOf", fn := fun _ => fun
  | [d] => { results := [.lit (.bool false)], args := [d] }
  | _ => none }
def FnExactRanksOfWrongFalsely : Prop := fnExactRanksOfRow.holds Try.pinned (OpenSpec.ofChange fnExactRanksOfWrong)

/-- 'laws.FnSquares': WHATEVER THE INPUT: true; the input reads as it did. -/
def fnSquaresSpec : ChangeSpec := { name := "fnSquares", fn := fun _ => fun
  | [d] => { results := [.lit (.bool true)], args := [d] }
  | _ => none }
def fnSquaresRow : OpenClaim := { program := "ytaaghemmkbgldaa", sum := "7347cd4320744eb02b7a6f0e2968950b7ceee5a23205b27ef9b7422e9ed8f174", func := "loop.example/g01262/laws.FnSquares", spec := "fnSquares", unfollowed := true, recurses := true, apart := false }
def FnSquaresSaid : Prop := fnSquaresRow.holds Try.pinned (OpenSpec.ofChange fnSquaresSpec)

/-- ITS FALSE NEIGHBOUR: 'it returns false'. Refute it at one input. -/
def fnSquaresWrong : ChangeSpec := { name := "fnSquares", fn := fun _ => fun
  | [d] => { results := [.lit (.bool false)], args := [d] }
  | _ => none }
def FnSquaresWrongFalsely : Prop := fnSquaresRow.holds Try.pinned (OpenSpec.ofChange fnSquaresWrong)

/-- 'laws.FnExactWalkFlips': WHATEVER THE INPUT: true; the input reads as it did. -/
def fnExactWalkFlipsSpec : ChangeSpec := { name := "fnExactWalkFlips", fn := fun _ => fun
  | [d1, d2] => { results := [.lit (.bool true)], args := [d1, d2] }
  | _ => none }
def fnExactWalkFlipsRow : OpenClaim := { program := "ytaaghemmkbgldaa", sum := "7347cd4320744eb02b7a6f0e2968950b7ceee5a23205b27ef9b7422e9ed8f174", func := "loop.example/g01262/laws.FnExactWalkFlips", spec := "fnExactWalkFlips", unfollowed := true, recurses := true, apart := false }
def FnExactWalkFlipsSaid : Prop := fnExactWalkFlipsRow.holds Try.pinned (OpenSpec.ofChange fnExactWalkFlipsSpec)

/-- ITS FALSE NEIGHBOUR: 'it returns false'. Refute it at one input. -/
def fnExactWalkFlipsWrong : ChangeSpec := { name := "fnExactWalkFlips", fn := fun _ => fun
  | [d1, d2] => { results := [.lit (.bool false)], args := [d1, d2] }
  | _ => none }
def FnExactWalkFlipsWrongFalsely : Prop := fnExactWalkFlipsRow.holds Try.pinned (OpenSpec.ofChange fnExactWalkFlipsWrong)

/-- 'laws.FnExactReduceScheme': WHATEVER THE INPUT: true; the input reads as it did. -/
def fnExactReduceSchemeSpec : ChangeSpec := { name := "fnExactReduceScheme", fn := fun _ => fun
  | [d] => { results := [.lit (.bool true)], args := [d] }
  | _ => none }
def fnExactReduceSchemeRow : OpenClaim := { program := "ytaaghemmkbgldaa", sum := "7347cd4320744eb02b7a6f0e2968950b7ceee5a23205b27ef9b7422e9ed8f174", func := "loop.example/g01262/laws.FnExactReduceScheme", spec := "fnExactReduceScheme", apart := false }
def FnExactReduceSchemeSaid : Prop := fnExactReduceSchemeRow.holds Try.pinned (OpenSpec.ofChange fnExactReduceSchemeSpec)

/-- ITS FALSE NEIGHBOUR: 'it returns false'. Refute it at one input. -/
def fnExactReduceSchemeWrong : ChangeSpec := { name := "fnExactReduceScheme", fn := fun _ => fun
  | [d] => { results := [.lit (.bool false)], args := [d] }
  | _ => none }
def FnExactReduceSchemeWrongFalsely : Prop := fnExactReduceSchemeRow.holds Try.pinned (OpenSpec.ofChange fnExactReduceSchemeWrong)

/-- 'laws.FnJoins': WHATEVER THE INPUT: true; the input reads as it did. -/
def fnJoinsSpec : ChangeSpec := { name := "fnJoins", fn := fun _ => fun
  | [d] => { results := [.lit (.bool true)], args := [d] }
  | _ => none }
def fnJoinsRow : OpenClaim := { program := "ytaaghemmkbgldaa", sum := "7347cd4320744eb02b7a6f0e2968950b7ceee5a23205b27ef9b7422e9ed8f174", func := "loop.example/g01262/laws.FnJoins", spec := "fnJoins", recurses := true, apart := false }
def FnJoinsSaid : Prop := fnJoinsRow.holds Try.pinned (OpenSpec.ofChange fnJoinsSpec)

/-- ITS FALSE NEIGHBOUR: 'it returns false'. Refute it at one input. -/
def fnJoinsWrong : ChangeSpec := { name := "fnJoins", fn := fun _ => fun
  | [d] => { results := [.lit (.bool false)], args := [d] }
  | _ => none }
def FnJoinsWrongFalsely : Prop := fnJoinsRow.holds Try.pinned (OpenSpec.ofChange fnJoinsWrong)

/- THE SECOND FORM. 'bulk': how many values and letters a reading holds, each counted each time it is reached (what is shared counts as often as it is met; a slice's spare places count too). A statement '..UptoSaid' is the law's where the arguments, and the package variables that the reading takes, are together of bulk at most 1048576: NARROWER than '..Said'. Prove '..Said' where nothing that the law and all that it calls make is longer than what came in: it says more and counts as full. Else prove '..UptoSaid'. A law counts once. -/
mutual
def uptoBulk {H : Type} : DataW H → Nat
  | .lit (.string bytes) => bytes.length + 1
  | .lit _ => 1
  | .nil => 1
  | .ptr d => uptoBulk d + 1
  | .slice elems spare => uptoBulkAll elems + uptoBulkAll spare + 1
  | .agg parts => uptoBulkAll parts + 1
  | .iface _ d => uptoBulk d + 1
  | .map entries => uptoBulkEntries entries + 1
  | .held _ => 1
def uptoBulkAll {H : Type} : List (DataW H) → Nat
  | [] => 0
  | d :: r => uptoBulk d + uptoBulkAll r
def uptoBulkEntries {H : Type} : List (Lit × DataW H) → Nat
  | [] => 0
  | x :: r => uptoBulkEntry x + uptoBulkEntries r
def uptoBulkEntry {H : Type} : Lit × DataW H → Nat
  | (.string bytes, d) => bytes.length + uptoBulk d + 1
  | (_, d) => uptoBulk d + 1
 end
def uptoSmall : (H : Type) → List (DataW H) → Bool := fun _ ds => decide (uptoBulkAll ds ≤ 1048576)
def OpenSpec.upto (s : _root_.Go.ChangeSpec) : _root_.Go.OpenSpec := { _root_.Go.OpenSpec.ofChange s with cond := some uptoSmall }

/-- 'laws.FnExactJoinCols', WHERE WHAT IT READS IS OF BULK AT MOST 1048576: true; the input reads as it did. -/
def fnExactJoinColsUptoRow : OpenClaim := { program := "ytaaghemmkbgldaa", sum := "7347cd4320744eb02b7a6f0e2968950b7ceee5a23205b27ef9b7422e9ed8f174", func := "loop.example/g01262/laws.FnExactJoinCols", spec := "fnExactJoinCols", apart := false, narrowed := true }
def FnExactJoinColsUptoSaid : Prop := fnExactJoinColsUptoRow.holds Try.pinned (OpenSpec.upto fnExactJoinColsSpec)

/-- 'laws.FnExactJoinInner', WHERE WHAT IT READS IS OF BULK AT MOST 1048576: true; the input reads as it did. -/
def fnExactJoinInnerUptoRow : OpenClaim := { program := "ytaaghemmkbgldaa", sum := "7347cd4320744eb02b7a6f0e2968950b7ceee5a23205b27ef9b7422e9ed8f174", func := "loop.example/g01262/laws.FnExactJoinInner", spec := "fnExactJoinInner", apart := false, narrowed := true }
def FnExactJoinInnerUptoSaid : Prop := fnExactJoinInnerUptoRow.holds Try.pinned (OpenSpec.upto fnExactJoinInnerSpec)

/-- 'laws.FnExactPlusMove', WHERE WHAT IT READS IS OF BULK AT MOST 1048576: true; the input reads as it did. -/
def fnExactPlusMoveUptoRow : OpenClaim := { program := "ytaaghemmkbgldaa", sum := "7347cd4320744eb02b7a6f0e2968950b7ceee5a23205b27ef9b7422e9ed8f174", func := "loop.example/g01262/laws.FnExactPlusMove", spec := "fnExactPlusMove", unfollowed := true, recurses := true, apart := false, narrowed := true }
def FnExactPlusMoveUptoSaid : Prop := fnExactPlusMoveUptoRow.holds Try.pinned (OpenSpec.upto fnExactPlusMoveSpec)

/-- 'laws.FnExactSplitProduct', WHERE WHAT IT READS IS OF BULK AT MOST 1048576: true; the input reads as it did. -/
def fnExactSplitProductUptoRow : OpenClaim := { program := "ytaaghemmkbgldaa", sum := "7347cd4320744eb02b7a6f0e2968950b7ceee5a23205b27ef9b7422e9ed8f174", func := "loop.example/g01262/laws.FnExactSplitProduct", spec := "fnExactSplitProduct", apart := false, narrowed := true }
def FnExactSplitProductUptoSaid : Prop := fnExactSplitProductUptoRow.holds Try.pinned (OpenSpec.upto fnExactSplitProductSpec)

/-- 'laws.FnExactFlipProducts', WHERE WHAT IT READS IS OF BULK AT MOST 1048576: true; the input reads as it did. -/
def fnExactFlipProductsUptoRow : OpenClaim := { program := "ytaaghemmkbgldaa", sum := "7347cd4320744eb02b7a6f0e2968950b7ceee5a23205b27ef9b7422e9ed8f174", func := "loop.example/g01262/laws.FnExactFlipProducts", spec := "fnExactFlipProducts", unfollowed := true, recurses := true, apart := false, narrowed := true }
def FnExactFlipProductsUptoSaid : Prop := fnExactFlipProductsUptoRow.holds Try.pinned (OpenSpec.upto fnExactFlipProductsSpec)

/-- 'laws.FnExactRanksOf', WHERE WHAT IT READS IS OF BULK AT MOST 1048576: true; the input reads as it did. -/
def fnExactRanksOfUptoRow : OpenClaim := { program := "ytaaghemmkbgldaa", sum := "7347cd4320744eb02b7a6f0e2968950b7ceee5a23205b27ef9b7422e9ed8f174", func := "loop.example/g01262/laws.FnExactRanksOf", spec := "fnExactRanksOf", unfollowed := true, recurses := true, apart := false, narrowed := true }
def FnExactRanksOfUptoSaid : Prop := fnExactRanksOfUptoRow.holds Try.pinned (OpenSpec.upto fnExactRanksOfSpec)

/-- 'laws.FnSquares', WHERE WHAT IT READS IS OF BULK AT MOST 1048576: true; the input reads as it did. -/
def fnSquaresUptoRow : OpenClaim := { program := "ytaaghemmkbgldaa", sum := "7347cd4320744eb02b7a6f0e2968950b7ceee5a23205b27ef9b7422e9ed8f174", func := "loop.example/g01262/laws.FnSquares", spec := "fnSquares", unfollowed := true, recurses := true, apart := false, narrowed := true }
def FnSquaresUptoSaid : Prop := fnSquaresUptoRow.holds Try.pinned (OpenSpec.upto fnSquaresSpec)

/-- 'laws.FnExactWalkFlips', WHERE WHAT IT READS IS OF BULK AT MOST 1048576: true; the input reads as it did. -/
def fnExactWalkFlipsUptoRow : OpenClaim := { program := "ytaaghemmkbgldaa", sum := "7347cd4320744eb02b7a6f0e2968950b7ceee5a23205b27ef9b7422e9ed8f174", func := "loop.example/g01262/laws.FnExactWalkFlips", spec := "fnExactWalkFlips", unfollowed := true, recurses := true, apart := false, narrowed := true }
def FnExactWalkFlipsUptoSaid : Prop := fnExactWalkFlipsUptoRow.holds Try.pinned (OpenSpec.upto fnExactWalkFlipsSpec)

/-- 'laws.FnExactReduceScheme', WHERE WHAT IT READS IS OF BULK AT MOST 1048576: true; the input reads as it did. -/
def fnExactReduceSchemeUptoRow : OpenClaim := { program := "ytaaghemmkbgldaa", sum := "7347cd4320744eb02b7a6f0e2968950b7ceee5a23205b27ef9b7422e9ed8f174", func := "loop.example/g01262/laws.FnExactReduceScheme", spec := "fnExactReduceScheme", apart := false, narrowed := true }
def FnExactReduceSchemeUptoSaid : Prop := fnExactReduceSchemeUptoRow.holds Try.pinned (OpenSpec.upto fnExactReduceSchemeSpec)

/-- 'laws.FnJoins', WHERE WHAT IT READS IS OF BULK AT MOST 1048576: true; the input reads as it did. -/
def fnJoinsUptoRow : OpenClaim := { program := "ytaaghemmkbgldaa", sum := "7347cd4320744eb02b7a6f0e2968950b7ceee5a23205b27ef9b7422e9ed8f174", func := "loop.example/g01262/laws.FnJoins", spec := "fnJoins", recurses := true, apart := false, narrowed := true }
def FnJoinsUptoSaid : Prop := fnJoinsUptoRow.holds Try.pinned (OpenSpec.upto fnJoinsSpec)

end Rows
end Go.Proofs.Ytaaghemmkbgldaa
