/- Types of the program as Lean's, facts on them. Printed by gen.py. -/
import Derived.Test.YtbhaeajdabgnhaaSqBB2
import Derived.Test.YtbhaeajdabgnhaaProg
set_option linter.unusedVariables false
set_option linter.unusedSimpArgs false
set_option maxRecDepth 4000
set_option maxHeartbeats 1000000
namespace Go.Proofs.YtB
open Go Go.RowKit Go.Proofs Go.Proofs.YtbhaeajdabgnhaaW.PrintWords
abbrev Form := Vector UInt8 9
abbrev zForm : Form := Vector.replicate 9 0
abbrev Prod := Form × Form × Form
structure Sch where
  p : Int
  n : Int
  m : Int
  k : Int
  ps : List Prod
theorem ze112 : (Try.prog.info? 112).bind (·.zero) = some (.agg #[.slice none 0 0, .int .i64 0, .int .u64 0]) := by kernel_rfl
theorem mixed : Try.prog.follows .mixedOrders = true := by kernel_rfl
theorem fa112_2 : FA Try.prog 112 2 2 := ⟨⟨_, _, 1, Try.underlying112, rfl, rfl, by kernel_rfl, by decide⟩⟩
theorem ty110 : Ty Try.prog 110 1 false := Ty.mk' (by kernel_rfl) (by kernel_rfl)
theorem sz5 : (Try.prog.info? 5).map (·.size) = some 1 := by kernel_rfl
theorem ty5 : Ty Try.prog 5 1 false := Ty.mk' (by kernel_rfl) (by kernel_rfl)
theorem fa112_1 : FA Try.prog 112 1 1 := ⟨⟨_, _, 1, Try.underlying112, rfl, rfl, by kernel_rfl, by decide⟩⟩
theorem ty3 : Ty Try.prog 3 1 false := Ty.mk' (by kernel_rfl) (by kernel_rfl)
theorem fa112_0 : FA Try.prog 112 0 0 := ⟨⟨_, _, 1, Try.underlying112, rfl, rfl, by kernel_rfl, by decide⟩⟩
theorem ty22 : Ty Try.prog 22 1 false := Ty.mk' (by kernel_rfl) (by kernel_rfl)
theorem en61 : En Try.prog 61 := ⟨⟨_, Try.func61, by kernel_rfl, by kernel_rfl⟩⟩
theorem sz2 : (Try.prog.info? 2).map (·.size) = some 1 := by kernel_rfl
theorem ty2 : Ty Try.prog 2 1 false := Ty.mk' (by kernel_rfl) (by kernel_rfl)
theorem el2 : El Try.prog 2 1 8 (.int .i64 0) := El.mk' (by kernel_rfl) (by kernel_rfl) (by decide) (by decide)
theorem en114 : En Try.prog 114 := ⟨⟨_, Try.func114, by kernel_rfl, by kernel_rfl⟩⟩
theorem el36 : El Try.prog 36 1 24 (.slice none 0 0) := El.mk' (by kernel_rfl) (by kernel_rfl) (by decide) (by decide)
theorem sz36 : (Try.prog.info? 36).map (·.size) = some 1 := by kernel_rfl
theorem ty36 : Ty Try.prog 36 1 false := Ty.mk' (by kernel_rfl) (by kernel_rfl)
theorem en105 : En Try.prog 105 := ⟨⟨_, Try.func105, by kernel_rfl, by kernel_rfl⟩⟩
abbrev O2 (ρ : Nat → Nat) (w w0 : World) (i : Nat) (v : Value) (xs : List Int) : Prop := Ow (kf fI64) 2 ρ w w0.heap.size i v xs
theorem en113 : En Try.prog 113 := ⟨⟨_, Try.func113, by kernel_rfl, by kernel_rfl⟩⟩
theorem en57 : En Try.prog 57 := ⟨⟨_, Try.func57, by kernel_rfl, by kernel_rfl⟩⟩
theorem en59 : En Try.prog 59 := ⟨⟨_, Try.func59, by kernel_rfl, by kernel_rfl⟩⟩
theorem en60 : En Try.prog 60 := ⟨⟨_, Try.func60, by kernel_rfl, by kernel_rfl⟩⟩
theorem en104 : En Try.prog 104 := ⟨⟨_, Try.func104, by kernel_rfl, by kernel_rfl⟩⟩
theorem en52 : En Try.prog 52 := ⟨⟨_, Try.func52, by kernel_rfl, by kernel_rfl⟩⟩
theorem en115 : En Try.prog 115 := ⟨⟨_, Try.func115, by kernel_rfl, by kernel_rfl⟩⟩
theorem en62 : En Try.prog 62 := ⟨⟨_, Try.func62, by kernel_rfl, by kernel_rfl⟩⟩
theorem en63 : En Try.prog 63 := ⟨⟨_, Try.func63, by kernel_rfl, by kernel_rfl⟩⟩
theorem en67 : En Try.prog 67 := ⟨⟨_, Try.func67, by kernel_rfl, by kernel_rfl⟩⟩
theorem en111 : En Try.prog 111 := ⟨⟨_, Try.func111, by kernel_rfl, by kernel_rfl⟩⟩
theorem ze3 : (Try.prog.info? 3).bind (·.zero) = some (.int .i64 0) := by kernel_rfl
theorem en149 : En Try.prog 149 := ⟨⟨_, Try.func149, by kernel_rfl, by kernel_rfl⟩⟩
theorem en108 : En Try.prog 108 := ⟨⟨_, Try.func108, by kernel_rfl, by kernel_rfl⟩⟩
theorem en110 : En Try.prog 110 := ⟨⟨_, Try.func110, by kernel_rfl, by kernel_rfl⟩⟩
theorem en106 : En Try.prog 106 := ⟨⟨_, Try.func106, by kernel_rfl, by kernel_rfl⟩⟩
theorem en150 : En Try.prog 150 := ⟨⟨_, Try.func150, by kernel_rfl, by kernel_rfl⟩⟩
theorem en107 : En Try.prog 107 := ⟨⟨_, Try.func107, by kernel_rfl, by kernel_rfl⟩⟩
theorem en109 : En Try.prog 109 := ⟨⟨_, Try.func109, by kernel_rfl, by kernel_rfl⟩⟩
theorem en53 : En Try.prog 53 := ⟨⟨_, Try.func53, by kernel_rfl, by kernel_rfl⟩⟩
theorem en54 : En Try.prog 54 := ⟨⟨_, Try.func54, by kernel_rfl, by kernel_rfl⟩⟩
theorem en55 : En Try.prog 55 := ⟨⟨_, Try.func55, by kernel_rfl, by kernel_rfl⟩⟩
theorem en66 : En Try.prog 66 := ⟨⟨_, Try.func66, by kernel_rfl, by kernel_rfl⟩⟩
theorem en65 : En Try.prog 65 := ⟨⟨_, Try.func65, by kernel_rfl, by kernel_rfl⟩⟩
theorem en112 : En Try.prog 112 := ⟨⟨_, Try.func112, by kernel_rfl, by kernel_rfl⟩⟩
theorem en56 : En Try.prog 56 := ⟨⟨_, Try.func56, by kernel_rfl, by kernel_rfl⟩⟩
theorem en58 : En Try.prog 58 := ⟨⟨_, Try.func58, by kernel_rfl, by kernel_rfl⟩⟩
theorem en64 : En Try.prog 64 := ⟨⟨_, Try.func64, by kernel_rfl, by kernel_rfl⟩⟩
abbrev O36 (ρ : Nat → Nat) (w w0 : World) (i : Nat) (v : Value) (xs : List (List Int)) : Prop := Ow (Kd.slice 2 (kf fI64)) 36 ρ w w0.heap.size i v xs
theorem en68 : En Try.prog 68 := ⟨⟨_, Try.func68, by kernel_rfl, by kernel_rfl⟩⟩
theorem en9 : En Try.prog 9 := ⟨⟨_, Try.func9, by kernel_rfl, by kernel_rfl⟩⟩
theorem en10 : En Try.prog 10 := ⟨⟨_, Try.func10, by kernel_rfl, by kernel_rfl⟩⟩
theorem en11 : En Try.prog 11 := ⟨⟨_, Try.func11, by kernel_rfl, by kernel_rfl⟩⟩
theorem en12 : En Try.prog 12 := ⟨⟨_, Try.func12, by kernel_rfl, by kernel_rfl⟩⟩
theorem en13 : En Try.prog 13 := ⟨⟨_, Try.func13, by kernel_rfl, by kernel_rfl⟩⟩
theorem en14 : En Try.prog 14 := ⟨⟨_, Try.func14, by kernel_rfl, by kernel_rfl⟩⟩
theorem en15 : En Try.prog 15 := ⟨⟨_, Try.func15, by kernel_rfl, by kernel_rfl⟩⟩
theorem en16 : En Try.prog 16 := ⟨⟨_, Try.func16, by kernel_rfl, by kernel_rfl⟩⟩
theorem en17 : En Try.prog 17 := ⟨⟨_, Try.func17, by kernel_rfl, by kernel_rfl⟩⟩
theorem en18 : En Try.prog 18 := ⟨⟨_, Try.func18, by kernel_rfl, by kernel_rfl⟩⟩
theorem en19 : En Try.prog 19 := ⟨⟨_, Try.func19, by kernel_rfl, by kernel_rfl⟩⟩
end Go.Proofs.YtB
