/- Types of the program as Lean's, facts on them. Printed by gen.py. -/
import Derived.Test.YtaaghemmkbgldaaRoB20
import Derived.Test.YtaaghemmkbgldaaProg
set_option linter.unusedVariables false
set_option linter.unusedSimpArgs false
set_option maxRecDepth 4000
set_option maxHeartbeats 1000000
namespace Go.Proofs.YtB
open Go Go.RowKit Go.Proofs Go.Proofs.YtaaghemmkbgldaaW.PrintWords
abbrev Form := Vector UInt8 9
abbrev cForm : Fl Form := fVec 9 fU8
abbrev zForm : Form := Vector.replicate 9 0
abbrev Prod := Form × Form × Form
abbrev cProd : Fl Prod := (fPair cForm (fPair cForm cForm))
abbrev zProd : Prod := (zForm, zForm, zForm)
theorem lProd_0 : Lens cProd cForm 0 (fun q => q.1) (fun q y => (y, q.2.1, q.2.2)) := Lens.fst _ _
theorem lProd_1 : Lens cProd cForm 9 (fun q => q.2.1) (fun q y => (q.1, y, q.2.2)) := Lens.comp (Lens.snd _ _) (Lens.fst _ _)
theorem lProd_2 : Lens cProd cForm 18 (fun q => q.2.2) (fun q y => (q.1, q.2.1, y)) := Lens.comp (Lens.snd _ _) (Lens.comp (Lens.snd _ _) (Lens.id _))
abbrev Vec3 := Vector Int 3
abbrev cVec3 : Fl Vec3 := fVec 3 fI64
abbrev zVec3 : Vec3 := Vector.replicate 3 0
abbrev Forms := Vector Form 3
abbrev cForms : Fl Forms := fVec 3 cForm
abbrev zForms : Forms := Vector.replicate 3 zForm
structure Sch where
  p : Int
  n : Int
  m : Int
  k : Int
  ps : List Prod
theorem fa24_4 : FA Try.prog 24 4 4 := ⟨⟨_, _, 1, Try.underlying24, rfl, rfl, by kernel_rfl, by decide⟩⟩
theorem ty22 : Ty Try.prog 22 1 false := Ty.mk' (by kernel_rfl) (by kernel_rfl)
theorem en62 : En Try.prog 62 := ⟨⟨_, Try.func62, by kernel_rfl, by kernel_rfl⟩⟩
theorem en107 : En Try.prog 107 := ⟨⟨_, Try.func107, by kernel_rfl, by kernel_rfl⟩⟩
theorem en80 : En Try.prog 80 := ⟨⟨_, Try.func80, by kernel_rfl, by kernel_rfl⟩⟩
theorem sz5 : (Try.prog.info? 5).map (·.size) = some 1 := by kernel_rfl
theorem ty5 : Ty Try.prog 5 1 false := Ty.mk' (by kernel_rfl) (by kernel_rfl)
theorem ty39 : Ty Try.prog 39 9 true := Ty.mk' (by kernel_rfl) (by kernel_rfl)
theorem ze39 : (Try.prog.info? 39).bind (·.zero) = some (.agg #[.int .u8 0, .int .u8 0, .int .u8 0, .int .u8 0, .int .u8 0, .int .u8 0, .int .u8 0, .int .u8 0, .int .u8 0]) := by kernel_rfl
theorem mixed : Try.prog.follows .mixedOrders = true := by kernel_rfl
theorem fa28_1 : FA Try.prog 28 1 1 := ⟨⟨_, _, 1, Try.underlying28, rfl, rfl, by kernel_rfl, by decide⟩⟩
theorem ty2 : Ty Try.prog 2 1 false := Ty.mk' (by kernel_rfl) (by kernel_rfl)
theorem fa28_2 : FA Try.prog 28 2 2 := ⟨⟨_, _, 1, Try.underlying28, rfl, rfl, by kernel_rfl, by decide⟩⟩
theorem fa28_3 : FA Try.prog 28 3 3 := ⟨⟨_, _, 1, Try.underlying28, rfl, rfl, by kernel_rfl, by decide⟩⟩
theorem ty28 : Ty Try.prog 28 5 true := Ty.mk' (by kernel_rfl) (by kernel_rfl)
theorem en134 : En Try.prog 134 := ⟨⟨_, Try.func134, by kernel_rfl, by kernel_rfl⟩⟩
theorem fa28_0 : FA Try.prog 28 0 0 := ⟨⟨_, _, 1, Try.underlying28, rfl, rfl, by kernel_rfl, by decide⟩⟩
theorem fa78_0 : FA Try.prog 78 0 0 := ⟨⟨_, _, 9, Try.underlying78, rfl, rfl, by kernel_rfl, by decide⟩⟩
theorem en81 : En Try.prog 81 := ⟨⟨_, Try.func81, by kernel_rfl, by kernel_rfl⟩⟩
theorem fa78_1 : FA Try.prog 78 1 9 := ⟨⟨_, _, 9, Try.underlying78, rfl, rfl, by kernel_rfl, by decide⟩⟩
theorem fa78_2 : FA Try.prog 78 2 18 := ⟨⟨_, _, 9, Try.underlying78, rfl, rfl, by kernel_rfl, by decide⟩⟩
theorem en83 : En Try.prog 83 := ⟨⟨_, Try.func83, by kernel_rfl, by kernel_rfl⟩⟩
theorem en127 : En Try.prog 127 := ⟨⟨_, Try.func127, by kernel_rfl, by kernel_rfl⟩⟩
theorem fa28_4 : FA Try.prog 28 4 4 := ⟨⟨_, _, 1, Try.underlying28, rfl, rfl, by kernel_rfl, by decide⟩⟩
theorem ty26 : Ty Try.prog 26 1 false := Ty.mk' (by kernel_rfl) (by kernel_rfl)
theorem sz78 : (Try.prog.info? 78).map (·.size) = some 27 := by kernel_rfl
theorem ty78 : Ty Try.prog 78 27 true := Ty.mk' (by kernel_rfl) (by kernel_rfl)
theorem en128 : En Try.prog 128 := ⟨⟨_, Try.func128, by kernel_rfl, by kernel_rfl⟩⟩
theorem ze28 : (Try.prog.info? 28).bind (·.zero) = some (.agg #[.int .i64 0, .int .i64 0, .int .i64 0, .int .i64 0, .slice none 0 0]) := by kernel_rfl
theorem el78 : El Try.prog 78 27 27 (.agg #[.int .u8 0, .int .u8 0, .int .u8 0, .int .u8 0, .int .u8 0, .int .u8 0, .int .u8 0, .int .u8 0, .int .u8 0, .int .u8 0, .int .u8 0, .int .u8 0, .int .u8 0, .int .u8 0, .int .u8 0, .int .u8 0, .int .u8 0, .int .u8 0, .int .u8 0, .int .u8 0, .int .u8 0, .int .u8 0, .int .u8 0, .int .u8 0, .int .u8 0, .int .u8 0, .int .u8 0]) := El.mk' (by kernel_rfl) (by kernel_rfl) (by decide) (by decide)
abbrev O78 (ρ : Nat → Nat) (w w0 : World) (i : Nat) (v : Value) (xs : List Prod) : Prop := Ow (kf cProd) 78 ρ w w0.heap.size i v xs
theorem ze78 : (Try.prog.info? 78).bind (·.zero) = some (.agg #[.int .u8 0, .int .u8 0, .int .u8 0, .int .u8 0, .int .u8 0, .int .u8 0, .int .u8 0, .int .u8 0, .int .u8 0, .int .u8 0, .int .u8 0, .int .u8 0, .int .u8 0, .int .u8 0, .int .u8 0, .int .u8 0, .int .u8 0, .int .u8 0, .int .u8 0, .int .u8 0, .int .u8 0, .int .u8 0, .int .u8 0, .int .u8 0, .int .u8 0, .int .u8 0, .int .u8 0]) := by kernel_rfl
theorem en130 : En Try.prog 130 := ⟨⟨_, Try.func130, by kernel_rfl, by kernel_rfl⟩⟩
theorem en69 : En Try.prog 69 := ⟨⟨_, Try.func69, by kernel_rfl, by kernel_rfl⟩⟩
theorem el2 : El Try.prog 2 1 8 (.int .i64 0) := El.mk' (by kernel_rfl) (by kernel_rfl) (by decide) (by decide)
theorem sz2 : (Try.prog.info? 2).map (·.size) = some 1 := by kernel_rfl
theorem fa123_0 : FA Try.prog 123 0 0 := ⟨⟨_, _, 9, Try.underlying123, rfl, rfl, by kernel_rfl, by decide⟩⟩
theorem ty37 : Ty Try.prog 37 9 true := Ty.mk' (by kernel_rfl) (by kernel_rfl)
theorem en25 : En Try.prog 25 := ⟨⟨_, Try.func25, by kernel_rfl, by kernel_rfl⟩⟩
theorem fa123_1 : FA Try.prog 123 1 9 := ⟨⟨_, _, 9, Try.underlying123, rfl, rfl, by kernel_rfl, by decide⟩⟩
theorem fa123_2 : FA Try.prog 123 2 18 := ⟨⟨_, _, 9, Try.underlying123, rfl, rfl, by kernel_rfl, by decide⟩⟩
theorem sz123 : (Try.prog.info? 123).map (·.size) = some 27 := by kernel_rfl
theorem ty123 : Ty Try.prog 123 27 true := Ty.mk' (by kernel_rfl) (by kernel_rfl)
theorem en124 : En Try.prog 124 := ⟨⟨_, Try.func124, by kernel_rfl, by kernel_rfl⟩⟩
theorem fa24_0 : FA Try.prog 24 0 0 := ⟨⟨_, _, 1, Try.underlying24, rfl, rfl, by kernel_rfl, by decide⟩⟩
theorem fa24_1 : FA Try.prog 24 1 1 := ⟨⟨_, _, 1, Try.underlying24, rfl, rfl, by kernel_rfl, by decide⟩⟩
theorem fa24_2 : FA Try.prog 24 2 2 := ⟨⟨_, _, 1, Try.underlying24, rfl, rfl, by kernel_rfl, by decide⟩⟩
theorem fa24_3 : FA Try.prog 24 3 3 := ⟨⟨_, _, 1, Try.underlying24, rfl, rfl, by kernel_rfl, by decide⟩⟩
theorem en64 : En Try.prog 64 := ⟨⟨_, Try.func64, by kernel_rfl, by kernel_rfl⟩⟩
theorem ze89 : (Try.prog.info? 89).bind (·.zero) = some (.agg #[.int .i64 0, .int .i64 0, .int .i64 0]) := by kernel_rfl
theorem ty89 : Ty Try.prog 89 3 true := Ty.mk' (by kernel_rfl) (by kernel_rfl)
theorem ze91 : (Try.prog.info? 91).bind (·.zero) = some (.agg #[.int .u8 0, .int .u8 0, .int .u8 0, .int .u8 0, .int .u8 0, .int .u8 0, .int .u8 0, .int .u8 0, .int .u8 0, .int .u8 0, .int .u8 0, .int .u8 0, .int .u8 0, .int .u8 0, .int .u8 0, .int .u8 0, .int .u8 0, .int .u8 0, .int .u8 0, .int .u8 0, .int .u8 0, .int .u8 0, .int .u8 0, .int .u8 0, .int .u8 0, .int .u8 0, .int .u8 0]) := by kernel_rfl
theorem sz39 : (Try.prog.info? 39).map (·.size) = some 9 := by kernel_rfl
theorem ty91 : Ty Try.prog 91 27 true := Ty.mk' (by kernel_rfl) (by kernel_rfl)
theorem en87 : En Try.prog 87 := ⟨⟨_, Try.func87, by kernel_rfl, by kernel_rfl⟩⟩
theorem en85 : En Try.prog 85 := ⟨⟨_, Try.func85, by kernel_rfl, by kernel_rfl⟩⟩
theorem en133 : En Try.prog 133 := ⟨⟨_, Try.func133, by kernel_rfl, by kernel_rfl⟩⟩
theorem en104 : En Try.prog 104 := ⟨⟨_, Try.func104, by kernel_rfl, by kernel_rfl⟩⟩
theorem en105 : En Try.prog 105 := ⟨⟨_, Try.func105, by kernel_rfl, by kernel_rfl⟩⟩
theorem en86 : En Try.prog 86 := ⟨⟨_, Try.func86, by kernel_rfl, by kernel_rfl⟩⟩
theorem en131 : En Try.prog 131 := ⟨⟨_, Try.func131, by kernel_rfl, by kernel_rfl⟩⟩
theorem sz28 : (Try.prog.info? 28).map (·.size) = some 5 := by kernel_rfl
theorem en74 : En Try.prog 74 := ⟨⟨_, Try.func74, by kernel_rfl, by kernel_rfl⟩⟩
theorem en161 : En Try.prog 161 := ⟨⟨_, Try.func161, by kernel_rfl, by kernel_rfl⟩⟩
theorem en126 : En Try.prog 126 := ⟨⟨_, Try.func126, by kernel_rfl, by kernel_rfl⟩⟩
theorem en66 : En Try.prog 66 := ⟨⟨_, Try.func66, by kernel_rfl, by kernel_rfl⟩⟩
theorem en67 : En Try.prog 67 := ⟨⟨_, Try.func67, by kernel_rfl, by kernel_rfl⟩⟩
theorem en68 : En Try.prog 68 := ⟨⟨_, Try.func68, by kernel_rfl, by kernel_rfl⟩⟩
theorem ty24 : Ty Try.prog 24 5 true := Ty.mk' (by kernel_rfl) (by kernel_rfl)
theorem en13 : En Try.prog 13 := ⟨⟨_, Try.func13, by kernel_rfl, by kernel_rfl⟩⟩
theorem en15 : En Try.prog 15 := ⟨⟨_, Try.func15, by kernel_rfl, by kernel_rfl⟩⟩
theorem en17 : En Try.prog 17 := ⟨⟨_, Try.func17, by kernel_rfl, by kernel_rfl⟩⟩
theorem en18 : En Try.prog 18 := ⟨⟨_, Try.func18, by kernel_rfl, by kernel_rfl⟩⟩
theorem en129 : En Try.prog 129 := ⟨⟨_, Try.func129, by kernel_rfl, by kernel_rfl⟩⟩
theorem en70 : En Try.prog 70 := ⟨⟨_, Try.func70, by kernel_rfl, by kernel_rfl⟩⟩
theorem en72 : En Try.prog 72 := ⟨⟨_, Try.func72, by kernel_rfl, by kernel_rfl⟩⟩
theorem en71 : En Try.prog 71 := ⟨⟨_, Try.func71, by kernel_rfl, by kernel_rfl⟩⟩
theorem en73 : En Try.prog 73 := ⟨⟨_, Try.func73, by kernel_rfl, by kernel_rfl⟩⟩
theorem en162 : En Try.prog 162 := ⟨⟨_, Try.func162, by kernel_rfl, by kernel_rfl⟩⟩
theorem en132 : En Try.prog 132 := ⟨⟨_, Try.func132, by kernel_rfl, by kernel_rfl⟩⟩
theorem en75 : En Try.prog 75 := ⟨⟨_, Try.func75, by kernel_rfl, by kernel_rfl⟩⟩
theorem en76 : En Try.prog 76 := ⟨⟨_, Try.func76, by kernel_rfl, by kernel_rfl⟩⟩
theorem en77 : En Try.prog 77 := ⟨⟨_, Try.func77, by kernel_rfl, by kernel_rfl⟩⟩
theorem en79 : En Try.prog 79 := ⟨⟨_, Try.func79, by kernel_rfl, by kernel_rfl⟩⟩
theorem en78 : En Try.prog 78 := ⟨⟨_, Try.func78, by kernel_rfl, by kernel_rfl⟩⟩
theorem en82 : En Try.prog 82 := ⟨⟨_, Try.func82, by kernel_rfl, by kernel_rfl⟩⟩
theorem en84 : En Try.prog 84 := ⟨⟨_, Try.func84, by kernel_rfl, by kernel_rfl⟩⟩
abbrev O2 (ρ : Nat → Nat) (w w0 : World) (i : Nat) (v : Value) (xs : List Int) : Prop := Ow (kf fI64) 2 ρ w w0.heap.size i v xs
theorem en88 : En Try.prog 88 := ⟨⟨_, Try.func88, by kernel_rfl, by kernel_rfl⟩⟩
theorem en89 : En Try.prog 89 := ⟨⟨_, Try.func89, by kernel_rfl, by kernel_rfl⟩⟩
theorem en90 : En Try.prog 90 := ⟨⟨_, Try.func90, by kernel_rfl, by kernel_rfl⟩⟩
theorem el61 : El Try.prog 61 1 24 (.slice none 0 0) := El.mk' (by kernel_rfl) (by kernel_rfl) (by decide) (by decide)
theorem sz61 : (Try.prog.info? 61).map (·.size) = some 1 := by kernel_rfl
theorem ty61 : Ty Try.prog 61 1 false := Ty.mk' (by kernel_rfl) (by kernel_rfl)
theorem en135 : En Try.prog 135 := ⟨⟨_, Try.func135, by kernel_rfl, by kernel_rfl⟩⟩
theorem en91 : En Try.prog 91 := ⟨⟨_, Try.func91, by kernel_rfl, by kernel_rfl⟩⟩
theorem ty3 : Ty Try.prog 3 1 false := Ty.mk' (by kernel_rfl) (by kernel_rfl)
theorem en144 : En Try.prog 144 := ⟨⟨_, Try.func144, by kernel_rfl, by kernel_rfl⟩⟩
theorem ze3 : (Try.prog.info? 3).bind (·.zero) = some (.int .i64 0) := by kernel_rfl
theorem en163 : En Try.prog 163 := ⟨⟨_, Try.func163, by kernel_rfl, by kernel_rfl⟩⟩
theorem en141 : En Try.prog 141 := ⟨⟨_, Try.func141, by kernel_rfl, by kernel_rfl⟩⟩
theorem en143 : En Try.prog 143 := ⟨⟨_, Try.func143, by kernel_rfl, by kernel_rfl⟩⟩
abbrev O61 (ρ : Nat → Nat) (w w0 : World) (i : Nat) (v : Value) (xs : List (List Int)) : Prop := Ow (Kd.slice 2 (kf fI64)) 61 ρ w w0.heap.size i v xs
theorem en164 : En Try.prog 164 := ⟨⟨_, Try.func164, by kernel_rfl, by kernel_rfl⟩⟩
theorem en137 : En Try.prog 137 := ⟨⟨_, Try.func137, by kernel_rfl, by kernel_rfl⟩⟩
theorem en136 : En Try.prog 136 := ⟨⟨_, Try.func136, by kernel_rfl, by kernel_rfl⟩⟩
theorem en92 : En Try.prog 92 := ⟨⟨_, Try.func92, by kernel_rfl, by kernel_rfl⟩⟩
theorem en48 : En Try.prog 48 := ⟨⟨_, Try.func48, by kernel_rfl, by kernel_rfl⟩⟩
theorem en49 : En Try.prog 49 := ⟨⟨_, Try.func49, by kernel_rfl, by kernel_rfl⟩⟩
theorem en93 : En Try.prog 93 := ⟨⟨_, Try.func93, by kernel_rfl, by kernel_rfl⟩⟩
theorem en29 : En Try.prog 29 := ⟨⟨_, Try.func29, by kernel_rfl, by kernel_rfl⟩⟩
theorem en30 : En Try.prog 30 := ⟨⟨_, Try.func30, by kernel_rfl, by kernel_rfl⟩⟩
theorem en31 : En Try.prog 31 := ⟨⟨_, Try.func31, by kernel_rfl, by kernel_rfl⟩⟩
theorem en32 : En Try.prog 32 := ⟨⟨_, Try.func32, by kernel_rfl, by kernel_rfl⟩⟩
theorem en33 : En Try.prog 33 := ⟨⟨_, Try.func33, by kernel_rfl, by kernel_rfl⟩⟩
theorem en177 : En Try.prog 177 := ⟨⟨_, Try.func177, by kernel_rfl, by kernel_rfl⟩⟩
theorem en178 : En Try.prog 178 := ⟨⟨_, Try.func178, by kernel_rfl, by kernel_rfl⟩⟩
theorem en168 : En Try.prog 168 := ⟨⟨_, Try.func168, by kernel_rfl, by kernel_rfl⟩⟩
theorem en169 : En Try.prog 169 := ⟨⟨_, Try.func169, by kernel_rfl, by kernel_rfl⟩⟩
theorem eqv5 : Vl Try.prog 5 fU8 (fun b : UInt8 => .int .u8 (b.toNat : Int)) := Vl.cell ty5 (fun _ => rfl) rfl
theorem eqc39 : EqC Try.prog 39 (fun v : Form => .agg (cForm.enc v).toArray) 2 := EqC.vec (0 : UInt8) Try.underlying39 eqv5 (EqC.u8 Try.underlying5)
theorem eq39 : ∀ (x y : Form) (w : World), (Op.equal 39 (.agg (cForm.enc x).toArray) (.agg (cForm.enc y).toArray)).run Try.prog w = .ok (decide (x = y)) w := EqC.top eqc39 (by decide)
theorem gt39 : Try.prog.eqGuardType Try.prog.depth 39 = false := by kernel_rfl
def zSch : Sch := ⟨0, 0, 0, 0, []⟩
/-- a scheme that lies in a row: its slice is read -/
def kSch : Kd Sch where
  sz := 5
  E := []
  K := fun w x cs => ∃ u, cs = [.int .i64 x.p, .int .i64 x.n, .int .i64 x.m, .int .i64 x.k, u] ∧ Ro (kf cProd) w u x.ps
  M := fun _ _ _ _ _ => False
  K_len := fun ⟨u, h, _⟩ => by rw [h]; rfl
  K_one := fun ⟨u, h, hr⟩ v hv => by rw [h] at hv; exact one_sch hr.one v hv
  K_below := fun hb ⟨u, h, hr⟩ => ⟨u, h, hr.below hb⟩
  K_of_M := fun h => h.elim
  M_mono := fun _ h => h
  M_bound := fun h => h.elim
  M_move := fun _ h => h
  M_lower := fun _ h => h
theorem Ro.el_sch {w : World} {v : Value} {xs : List Sch} {p : Int} (h : Ro kSch w v xs) (h0 : 0 ≤ p) (h1 : p < xs.length) : ∃ ad c u, v = .slice (some ad) xs.length c ∧ Cl w ad (p.toNat * 5) [.int .i64 (gl zSch xs p).p, .int .i64 (gl zSch xs p).n, .int .i64 (gl zSch xs p).m, .int .i64 (gl zSch xs p).k, u] ∧ Ro (kf cProd) w u (gl zSch xs p).ps := by
  obtain ⟨A, c, rfl, h2, h3⟩ := h
  obtain ⟨ad, cs, rfl, _, hK, hc⟩ := Kd.C_get h3 zSch p h0 h1
  obtain ⟨u, rfl, hr⟩ := hK
  exact ⟨ad, c, u, rfl, hc, hr⟩
end Go.Proofs.YtB
