/- Types of the program as Lean's, facts on them. Printed by gen.py. -/
import Derived.Test.YtbhaeajdabgnhaaAeBB2
import Derived.Test.YtbhaeajdabgnhaaProg
set_option linter.unusedVariables false
set_option linter.unusedSimpArgs false
set_option maxRecDepth 4000
set_option maxHeartbeats 1000000
namespace Go.Proofs.YtB
open Go Go.RowKit Go.Proofs Go.Proofs.YtbhaeajdabgnhaaW.PrintWords
abbrev Form := Vector UInt8 9
abbrev cForm : Fl Form := fVec 9 fU8
abbrev zForm : Form := Vector.replicate 9 0
abbrev Prod := Form × Form × Form
abbrev cProd : Fl Prod := (fPair cForm (fPair cForm cForm))
abbrev zProd : Prod := (zForm, zForm, zForm)
theorem lProd_0 : Lens cProd cForm 0 (fun q => q.1) (fun q y => (y, q.2.1, q.2.2)) := Lens.fst _ _
theorem lProd_1 : Lens cProd cForm 9 (fun q => q.2.1) (fun q y => (q.1, y, q.2.2)) := Lens.comp (Lens.snd _ _) (Lens.fst _ _)
theorem lProd_2 : Lens cProd cForm 18 (fun q => q.2.2) (fun q y => (q.1, q.2.1, y)) := Lens.comp (Lens.snd _ _) (Lens.comp (Lens.snd _ _) (Lens.id _))
abbrev Forms := Vector Form 3
abbrev cForms : Fl Forms := fVec 3 cForm
abbrev zForms : Forms := Vector.replicate 3 zForm
abbrev Vec3 := Vector Int 3
abbrev cVec3 : Fl Vec3 := fVec 3 fI64
abbrev zVec3 : Vec3 := Vector.replicate 3 0
structure Sch where
  p : Int
  n : Int
  m : Int
  k : Int
  ps : List Prod
theorem fa48_4 : FA Try.prog 48 4 4 := ⟨⟨_, _, 1, Try.underlying48, rfl, rfl, by kernel_rfl, by decide⟩⟩
theorem ty46 : Ty Try.prog 46 1 false := Ty.mk' (by kernel_rfl) (by kernel_rfl)
theorem en80 : En Try.prog 80 := ⟨⟨_, Try.func80, by kernel_rfl, by kernel_rfl⟩⟩
theorem en65 : En Try.prog 65 := ⟨⟨_, Try.func65, by kernel_rfl, by kernel_rfl⟩⟩
theorem en66 : En Try.prog 66 := ⟨⟨_, Try.func66, by kernel_rfl, by kernel_rfl⟩⟩
theorem mixed : Try.prog.follows .mixedOrders = true := by kernel_rfl
theorem fa39_1 : FA Try.prog 39 1 1 := ⟨⟨_, _, 1, Try.underlying39, rfl, rfl, by kernel_rfl, by decide⟩⟩
theorem ty2 : Ty Try.prog 2 1 false := Ty.mk' (by kernel_rfl) (by kernel_rfl)
theorem fa39_2 : FA Try.prog 39 2 2 := ⟨⟨_, _, 1, Try.underlying39, rfl, rfl, by kernel_rfl, by decide⟩⟩
theorem fa39_3 : FA Try.prog 39 3 3 := ⟨⟨_, _, 1, Try.underlying39, rfl, rfl, by kernel_rfl, by decide⟩⟩
theorem sz5 : (Try.prog.info? 5).map (·.size) = some 1 := by kernel_rfl
theorem ty5 : Ty Try.prog 5 1 false := Ty.mk' (by kernel_rfl) (by kernel_rfl)
theorem ty80 : Ty Try.prog 80 9 true := Ty.mk' (by kernel_rfl) (by kernel_rfl)
theorem ze80 : (Try.prog.info? 80).bind (·.zero) = some (.agg #[.int .u8 0, .int .u8 0, .int .u8 0, .int .u8 0, .int .u8 0, .int .u8 0, .int .u8 0, .int .u8 0, .int .u8 0]) := by kernel_rfl
theorem ty39 : Ty Try.prog 39 5 true := Ty.mk' (by kernel_rfl) (by kernel_rfl)
theorem en155 : En Try.prog 155 := ⟨⟨_, Try.func155, by kernel_rfl, by kernel_rfl⟩⟩
theorem fa39_0 : FA Try.prog 39 0 0 := ⟨⟨_, _, 1, Try.underlying39, rfl, rfl, by kernel_rfl, by decide⟩⟩
theorem fa82_0 : FA Try.prog 82 0 0 := ⟨⟨_, _, 9, Try.underlying82, rfl, rfl, by kernel_rfl, by decide⟩⟩
theorem en156 : En Try.prog 156 := ⟨⟨_, Try.func156, by kernel_rfl, by kernel_rfl⟩⟩
theorem fa82_1 : FA Try.prog 82 1 9 := ⟨⟨_, _, 9, Try.underlying82, rfl, rfl, by kernel_rfl, by decide⟩⟩
theorem fa82_2 : FA Try.prog 82 2 18 := ⟨⟨_, _, 9, Try.underlying82, rfl, rfl, by kernel_rfl, by decide⟩⟩
theorem en157 : En Try.prog 157 := ⟨⟨_, Try.func157, by kernel_rfl, by kernel_rfl⟩⟩
theorem en124 : En Try.prog 124 := ⟨⟨_, Try.func124, by kernel_rfl, by kernel_rfl⟩⟩
theorem fa39_4 : FA Try.prog 39 4 4 := ⟨⟨_, _, 1, Try.underlying39, rfl, rfl, by kernel_rfl, by decide⟩⟩
theorem ty37 : Ty Try.prog 37 1 false := Ty.mk' (by kernel_rfl) (by kernel_rfl)
theorem sz82 : (Try.prog.info? 82).map (·.size) = some 27 := by kernel_rfl
theorem ty82 : Ty Try.prog 82 27 true := Ty.mk' (by kernel_rfl) (by kernel_rfl)
theorem en125 : En Try.prog 125 := ⟨⟨_, Try.func125, by kernel_rfl, by kernel_rfl⟩⟩
theorem en114 : En Try.prog 114 := ⟨⟨_, Try.func114, by kernel_rfl, by kernel_rfl⟩⟩
theorem el36 : El Try.prog 36 1 24 (.slice none 0 0) := El.mk' (by kernel_rfl) (by kernel_rfl) (by decide) (by decide)
theorem el2 : El Try.prog 2 1 8 (.int .i64 0) := El.mk' (by kernel_rfl) (by kernel_rfl) (by decide) (by decide)
abbrev O2 (ρ : Nat → Nat) (w w0 : World) (i : Nat) (v : Value) (xs : List Int) : Prop := Ow (kf fI64) 2 ρ w w0.heap.size i v xs
theorem sz36 : (Try.prog.info? 36).map (·.size) = some 1 := by kernel_rfl
theorem ty36 : Ty Try.prog 36 1 false := Ty.mk' (by kernel_rfl) (by kernel_rfl)
theorem sz2 : (Try.prog.info? 2).map (·.size) = some 1 := by kernel_rfl
theorem en113 : En Try.prog 113 := ⟨⟨_, Try.func113, by kernel_rfl, by kernel_rfl⟩⟩
theorem en77 : En Try.prog 77 := ⟨⟨_, Try.func77, by kernel_rfl, by kernel_rfl⟩⟩
theorem ze82 : (Try.prog.info? 82).bind (·.zero) = some (.agg #[.int .u8 0, .int .u8 0, .int .u8 0, .int .u8 0, .int .u8 0, .int .u8 0, .int .u8 0, .int .u8 0, .int .u8 0, .int .u8 0, .int .u8 0, .int .u8 0, .int .u8 0, .int .u8 0, .int .u8 0, .int .u8 0, .int .u8 0, .int .u8 0, .int .u8 0, .int .u8 0, .int .u8 0, .int .u8 0, .int .u8 0, .int .u8 0, .int .u8 0, .int .u8 0, .int .u8 0]) := by kernel_rfl
theorem fa128_0 : FA Try.prog 128 0 0 := ⟨⟨_, _, 9, Try.underlying128, rfl, rfl, by kernel_rfl, by decide⟩⟩
theorem ty79 : Ty Try.prog 79 9 true := Ty.mk' (by kernel_rfl) (by kernel_rfl)
theorem en160 : En Try.prog 160 := ⟨⟨_, Try.func160, by kernel_rfl, by kernel_rfl⟩⟩
theorem fa128_1 : FA Try.prog 128 1 9 := ⟨⟨_, _, 9, Try.underlying128, rfl, rfl, by kernel_rfl, by decide⟩⟩
theorem fa128_2 : FA Try.prog 128 2 18 := ⟨⟨_, _, 9, Try.underlying128, rfl, rfl, by kernel_rfl, by decide⟩⟩
theorem el82 : El Try.prog 82 27 27 (.agg #[.int .u8 0, .int .u8 0, .int .u8 0, .int .u8 0, .int .u8 0, .int .u8 0, .int .u8 0, .int .u8 0, .int .u8 0, .int .u8 0, .int .u8 0, .int .u8 0, .int .u8 0, .int .u8 0, .int .u8 0, .int .u8 0, .int .u8 0, .int .u8 0, .int .u8 0, .int .u8 0, .int .u8 0, .int .u8 0, .int .u8 0, .int .u8 0, .int .u8 0, .int .u8 0, .int .u8 0]) := El.mk' (by kernel_rfl) (by kernel_rfl) (by decide) (by decide)
abbrev O82 (ρ : Nat → Nat) (w w0 : World) (i : Nat) (v : Value) (xs : List Prod) : Prop := Ow (kf cProd) 82 ρ w w0.heap.size i v xs
theorem sz128 : (Try.prog.info? 128).map (·.size) = some 27 := by kernel_rfl
theorem ty128 : Ty Try.prog 128 27 true := Ty.mk' (by kernel_rfl) (by kernel_rfl)
theorem en128 : En Try.prog 128 := ⟨⟨_, Try.func128, by kernel_rfl, by kernel_rfl⟩⟩
theorem ze39 : (Try.prog.info? 39).bind (·.zero) = some (.agg #[.int .i64 0, .int .i64 0, .int .i64 0, .int .i64 0, .slice none 0 0]) := by kernel_rfl
theorem fa48_0 : FA Try.prog 48 0 0 := ⟨⟨_, _, 1, Try.underlying48, rfl, rfl, by kernel_rfl, by decide⟩⟩
theorem fa48_1 : FA Try.prog 48 1 1 := ⟨⟨_, _, 1, Try.underlying48, rfl, rfl, by kernel_rfl, by decide⟩⟩
theorem fa48_2 : FA Try.prog 48 2 2 := ⟨⟨_, _, 1, Try.underlying48, rfl, rfl, by kernel_rfl, by decide⟩⟩
theorem fa48_3 : FA Try.prog 48 3 3 := ⟨⟨_, _, 1, Try.underlying48, rfl, rfl, by kernel_rfl, by decide⟩⟩
theorem en83 : En Try.prog 83 := ⟨⟨_, Try.func83, by kernel_rfl, by kernel_rfl⟩⟩
theorem ze154 : (Try.prog.info? 154).bind (·.zero) = some (.agg #[.int .u8 0, .int .u8 0, .int .u8 0, .int .u8 0, .int .u8 0, .int .u8 0, .int .u8 0, .int .u8 0, .int .u8 0, .int .u8 0, .int .u8 0, .int .u8 0, .int .u8 0, .int .u8 0, .int .u8 0, .int .u8 0, .int .u8 0, .int .u8 0, .int .u8 0, .int .u8 0, .int .u8 0, .int .u8 0, .int .u8 0, .int .u8 0, .int .u8 0, .int .u8 0, .int .u8 0]) := by kernel_rfl
theorem sz80 : (Try.prog.info? 80).map (·.size) = some 9 := by kernel_rfl
theorem ty154 : Ty Try.prog 154 27 true := Ty.mk' (by kernel_rfl) (by kernel_rfl)
theorem en161 : En Try.prog 161 := ⟨⟨_, Try.func161, by kernel_rfl, by kernel_rfl⟩⟩
theorem en162 : En Try.prog 162 := ⟨⟨_, Try.func162, by kernel_rfl, by kernel_rfl⟩⟩
theorem en163 : En Try.prog 163 := ⟨⟨_, Try.func163, by kernel_rfl, by kernel_rfl⟩⟩
theorem ze84 : (Try.prog.info? 84).bind (·.zero) = some (.agg #[.int .i64 0, .int .i64 0, .int .i64 0]) := by kernel_rfl
theorem ty84 : Ty Try.prog 84 3 true := Ty.mk' (by kernel_rfl) (by kernel_rfl)
theorem en62 : En Try.prog 62 := ⟨⟨_, Try.func62, by kernel_rfl, by kernel_rfl⟩⟩
theorem en63 : En Try.prog 63 := ⟨⟨_, Try.func63, by kernel_rfl, by kernel_rfl⟩⟩
theorem en130 : En Try.prog 130 := ⟨⟨_, Try.func130, by kernel_rfl, by kernel_rfl⟩⟩
theorem en129 : En Try.prog 129 := ⟨⟨_, Try.func129, by kernel_rfl, by kernel_rfl⟩⟩
theorem ty3 : Ty Try.prog 3 1 false := Ty.mk' (by kernel_rfl) (by kernel_rfl)
theorem en111 : En Try.prog 111 := ⟨⟨_, Try.func111, by kernel_rfl, by kernel_rfl⟩⟩
theorem ze3 : (Try.prog.info? 3).bind (·.zero) = some (.int .i64 0) := by kernel_rfl
theorem en149 : En Try.prog 149 := ⟨⟨_, Try.func149, by kernel_rfl, by kernel_rfl⟩⟩
theorem en108 : En Try.prog 108 := ⟨⟨_, Try.func108, by kernel_rfl, by kernel_rfl⟩⟩
theorem en110 : En Try.prog 110 := ⟨⟨_, Try.func110, by kernel_rfl, by kernel_rfl⟩⟩
abbrev O36 (ρ : Nat → Nat) (w w0 : World) (i : Nat) (v : Value) (xs : List (List Int)) : Prop := Ow (Kd.slice 2 (kf fI64)) 36 ρ w w0.heap.size i v xs
theorem en164 : En Try.prog 164 := ⟨⟨_, Try.func164, by kernel_rfl, by kernel_rfl⟩⟩
theorem en131 : En Try.prog 131 := ⟨⟨_, Try.func131, by kernel_rfl, by kernel_rfl⟩⟩
theorem en106 : En Try.prog 106 := ⟨⟨_, Try.func106, by kernel_rfl, by kernel_rfl⟩⟩
theorem en84 : En Try.prog 84 := ⟨⟨_, Try.func84, by kernel_rfl, by kernel_rfl⟩⟩
theorem en176 : En Try.prog 176 := ⟨⟨_, Try.func176, by kernel_rfl, by kernel_rfl⟩⟩
theorem en135 : En Try.prog 135 := ⟨⟨_, Try.func135, by kernel_rfl, by kernel_rfl⟩⟩
theorem en89 : En Try.prog 89 := ⟨⟨_, Try.func89, by kernel_rfl, by kernel_rfl⟩⟩
theorem ty48 : Ty Try.prog 48 5 true := Ty.mk' (by kernel_rfl) (by kernel_rfl)
theorem en34 : En Try.prog 34 := ⟨⟨_, Try.func34, by kernel_rfl, by kernel_rfl⟩⟩
theorem en36 : En Try.prog 36 := ⟨⟨_, Try.func36, by kernel_rfl, by kernel_rfl⟩⟩
theorem en39 : En Try.prog 39 := ⟨⟨_, Try.func39, by kernel_rfl, by kernel_rfl⟩⟩
theorem en105 : En Try.prog 105 := ⟨⟨_, Try.func105, by kernel_rfl, by kernel_rfl⟩⟩
theorem en177 : En Try.prog 177 := ⟨⟨_, Try.func177, by kernel_rfl, by kernel_rfl⟩⟩
theorem en179 : En Try.prog 179 := ⟨⟨_, Try.func179, by kernel_rfl, by kernel_rfl⟩⟩
theorem en178 : En Try.prog 178 := ⟨⟨_, Try.func178, by kernel_rfl, by kernel_rfl⟩⟩
theorem en136 : En Try.prog 136 := ⟨⟨_, Try.func136, by kernel_rfl, by kernel_rfl⟩⟩
theorem sz24 : (Try.prog.info? 24).map (·.size) = some 1 := by kernel_rfl
theorem ty24 : Ty Try.prog 24 1 false := Ty.mk' (by kernel_rfl) (by kernel_rfl)
theorem en138 : En Try.prog 138 := ⟨⟨_, Try.func138, by kernel_rfl, by kernel_rfl⟩⟩
theorem en137 : En Try.prog 137 := ⟨⟨_, Try.func137, by kernel_rfl, by kernel_rfl⟩⟩
theorem ze97 : (Try.prog.info? 97).bind (·.zero) = some (.agg #[.slice none 0 0, .slice none 0 0, .slice none 0 0]) := by kernel_rfl
theorem en57 : En Try.prog 57 := ⟨⟨_, Try.func57, by kernel_rfl, by kernel_rfl⟩⟩
theorem en94 : En Try.prog 94 := ⟨⟨_, Try.func94, by kernel_rfl, by kernel_rfl⟩⟩
theorem en150 : En Try.prog 150 := ⟨⟨_, Try.func150, by kernel_rfl, by kernel_rfl⟩⟩
theorem en107 : En Try.prog 107 := ⟨⟨_, Try.func107, by kernel_rfl, by kernel_rfl⟩⟩
theorem en109 : En Try.prog 109 := ⟨⟨_, Try.func109, by kernel_rfl, by kernel_rfl⟩⟩
theorem en68 : En Try.prog 68 := ⟨⟨_, Try.func68, by kernel_rfl, by kernel_rfl⟩⟩
theorem en140 : En Try.prog 140 := ⟨⟨_, Try.func140, by kernel_rfl, by kernel_rfl⟩⟩
theorem ze2 : (Try.prog.info? 2).bind (·.zero) = some (.int .i64 0) := by kernel_rfl
theorem en141 : En Try.prog 141 := ⟨⟨_, Try.func141, by kernel_rfl, by kernel_rfl⟩⟩
theorem en55 : En Try.prog 55 := ⟨⟨_, Try.func55, by kernel_rfl, by kernel_rfl⟩⟩
theorem en139 : En Try.prog 139 := ⟨⟨_, Try.func139, by kernel_rfl, by kernel_rfl⟩⟩
theorem en142 : En Try.prog 142 := ⟨⟨_, Try.func142, by kernel_rfl, by kernel_rfl⟩⟩
theorem el24 : El Try.prog 24 1 24 (.slice none 0 0) := El.mk' (by kernel_rfl) (by kernel_rfl) (by decide) (by decide)
theorem en54 : En Try.prog 54 := ⟨⟨_, Try.func54, by kernel_rfl, by kernel_rfl⟩⟩
theorem en96 : En Try.prog 96 := ⟨⟨_, Try.func96, by kernel_rfl, by kernel_rfl⟩⟩
theorem en145 : En Try.prog 145 := ⟨⟨_, Try.func145, by kernel_rfl, by kernel_rfl⟩⟩
abbrev O24 (ρ : Nat → Nat) (w w0 : World) (i : Nat) (v : Value) (xs : List (List (List Int))) : Prop := Ow (Kd.slice 36 (Kd.slice 2 (kf fI64))) 24 ρ w w0.heap.size i v xs
theorem en143 : En Try.prog 143 := ⟨⟨_, Try.func143, by kernel_rfl, by kernel_rfl⟩⟩
theorem en100 : En Try.prog 100 := ⟨⟨_, Try.func100, by kernel_rfl, by kernel_rfl⟩⟩
theorem en144 : En Try.prog 144 := ⟨⟨_, Try.func144, by kernel_rfl, by kernel_rfl⟩⟩
theorem en98 : En Try.prog 98 := ⟨⟨_, Try.func98, by kernel_rfl, by kernel_rfl⟩⟩
theorem en99 : En Try.prog 99 := ⟨⟨_, Try.func99, by kernel_rfl, by kernel_rfl⟩⟩
theorem sz3 : (Try.prog.info? 3).map (·.size) = some 1 := by kernel_rfl
theorem en210 : En Try.prog 210 := ⟨⟨_, Try.func210, by kernel_rfl, by kernel_rfl⟩⟩
theorem en206 : En Try.prog 206 := ⟨⟨_, Try.func206, by kernel_rfl, by kernel_rfl⟩⟩
theorem en195 : En Try.prog 195 := ⟨⟨_, Try.func195, by kernel_rfl, by kernel_rfl⟩⟩
theorem el3 : El Try.prog 3 1 8 (.int .i64 0) := El.mk' (by kernel_rfl) (by kernel_rfl) (by decide) (by decide)
theorem en194 : En Try.prog 194 := ⟨⟨_, Try.func194, by kernel_rfl, by kernel_rfl⟩⟩
theorem en180 : En Try.prog 180 := ⟨⟨_, Try.func180, by kernel_rfl, by kernel_rfl⟩⟩
theorem en181 : En Try.prog 181 := ⟨⟨_, Try.func181, by kernel_rfl, by kernel_rfl⟩⟩
theorem en146 : En Try.prog 146 := ⟨⟨_, Try.func146, by kernel_rfl, by kernel_rfl⟩⟩
theorem en147 : En Try.prog 147 := ⟨⟨_, Try.func147, by kernel_rfl, by kernel_rfl⟩⟩
theorem en148 : En Try.prog 148 := ⟨⟨_, Try.func148, by kernel_rfl, by kernel_rfl⟩⟩
theorem en101 : En Try.prog 101 := ⟨⟨_, Try.func101, by kernel_rfl, by kernel_rfl⟩⟩
theorem en102 : En Try.prog 102 := ⟨⟨_, Try.func102, by kernel_rfl, by kernel_rfl⟩⟩
theorem sz39 : (Try.prog.info? 39).map (·.size) = some 5 := by kernel_rfl
theorem el39 : El Try.prog 39 5 56 (.agg #[.int .i64 0, .int .i64 0, .int .i64 0, .int .i64 0, .slice none 0 0]) := El.mk' (by kernel_rfl) (by kernel_rfl) (by decide) (by decide)
theorem en75 : En Try.prog 75 := ⟨⟨_, Try.func75, by kernel_rfl, by kernel_rfl⟩⟩
theorem en103 : En Try.prog 103 := ⟨⟨_, Try.func103, by kernel_rfl, by kernel_rfl⟩⟩
theorem en50 : En Try.prog 50 := ⟨⟨_, Try.func50, by kernel_rfl, by kernel_rfl⟩⟩
theorem en51 : En Try.prog 51 := ⟨⟨_, Try.func51, by kernel_rfl, by kernel_rfl⟩⟩
theorem eqv5 : Vl Try.prog 5 fU8 (fun b : UInt8 => .int .u8 (b.toNat : Int)) := Vl.cell ty5 (fun _ => rfl) rfl
theorem eqc80 : EqC Try.prog 80 (fun v : Form => .agg (cForm.enc v).toArray) 2 := EqC.vec (0 : UInt8) Try.underlying80 eqv5 (EqC.u8 Try.underlying5)
theorem eq80 : ∀ (x y : Form) (w : World), (Op.equal 80 (.agg (cForm.enc x).toArray) (.agg (cForm.enc y).toArray)).run Try.prog w = .ok (decide (x = y)) w := EqC.top eqc80 (by decide)
theorem gt80 : Try.prog.eqGuardType Try.prog.depth 80 = false := by kernel_rfl
def zSch : Sch := ⟨0, 0, 0, 0, []⟩
/-- a scheme that lies in a row: its slice is read -/
def kSch : Kd Sch where
  sz := 5
  E := []
  K := fun w x cs => ∃ u, cs = [.int .i64 x.p, .int .i64 x.n, .int .i64 x.m, .int .i64 x.k, u] ∧ Ro (kf cProd) w u x.ps
  M := fun _ _ _ _ _ => False
  K_len := fun ⟨u, h, _⟩ => by rw [h]; rfl
  K_one := fun ⟨u, h, hr⟩ v hv => by rw [h] at hv; exact one_sch hr.one v hv
  K_below := fun hb ⟨u, h, hr⟩ => ⟨u, h, hr.belowK hb⟩
  K_of_M := fun h => h.elim
  M_mono := fun _ h => h
  M_bound := fun h => h.elim
  M_move := fun _ h => h
  M_lower := fun _ h => h
theorem Ro.el_sch {w : World} {v : Value} {xs : List Sch} {p : Int} (h : Ro kSch w v xs) (h0 : 0 ≤ p) (h1 : p < xs.length) : ∃ ad c u, v = .slice (some ad) xs.length c ∧ Cl w ad (p.toNat * 5) [.int .i64 (gl zSch xs p).p, .int .i64 (gl zSch xs p).n, .int .i64 (gl zSch xs p).m, .int .i64 (gl zSch xs p).k, u] ∧ Ro (kf cProd) w u (gl zSch xs p).ps := by
  obtain ⟨A, c, rfl, h2, h3⟩ := h
  obtain ⟨ad, cs, rfl, _, hK, hc⟩ := Kd.C_get h3 zSch p h0 h1
  obtain ⟨u, rfl, hr⟩ := hK
  exact ⟨ad, c, u, rfl, hc, hr⟩
theorem eqc82 : EqC Try.prog 82 (fun v : Prod => .agg (cProd.enc v).toArray) 3 := EqC.three (d := cForm) Try.underlying82 (by kernel_rfl) ⟨by decide, by decide, by decide⟩ ⟨rfl, rfl, rfl⟩ ⟨rfl, rfl, rfl⟩ (Vl.agg ty80) eqc80
theorem eq82 : ∀ (x y : Prod) (w : World), (Op.equal 82 (.agg (cProd.enc x).toArray) (.agg (cProd.enc y).toArray)).run Try.prog w = .ok (decide (x = y)) w := EqC.top eqc82 (by decide)
theorem gt82 : Try.prog.eqGuardType Try.prog.depth 82 = false := by kernel_rfl
end Go.Proofs.YtB
