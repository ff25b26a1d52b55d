/- Types of the program as Lean's, facts on them. Printed by gen.py. -/
import Derived.Test.YtbmjglgpckfpjaaEqB21
import Derived.Test.YtbmjglgpckfpjaaProg
set_option linter.unusedVariables false
set_option linter.unusedSimpArgs false
set_option maxRecDepth 4000
set_option maxHeartbeats 1000000
namespace Go.Proofs.YtB
open Go Go.RowKit Go.Proofs Go.Proofs.YtbmjglgpckfpjaaW.PrintWords
abbrev Form := Vector UInt8 9
abbrev cForm : Fl Form := fVec 9 fU8
abbrev zForm : Form := Vector.replicate 9 0
abbrev Prod := Form × Form × Form
abbrev cProd : Fl Prod := (fPair cForm (fPair cForm cForm))
abbrev zProd : Prod := (zForm, zForm, zForm)
theorem lProd_0 : Lens cProd cForm 0 (fun q => q.1) (fun q y => (y, q.2.1, q.2.2)) := Lens.fst _ _
theorem lProd_1 : Lens cProd cForm 9 (fun q => q.2.1) (fun q y => (q.1, y, q.2.2)) := Lens.comp (Lens.snd _ _) (Lens.fst _ _)
theorem lProd_2 : Lens cProd cForm 18 (fun q => q.2.2) (fun q y => (q.1, q.2.1, y)) := Lens.comp (Lens.snd _ _) (Lens.comp (Lens.snd _ _) (Lens.id _))
abbrev Forms := Vector Form 3
abbrev cForms : Fl Forms := fVec 3 cForm
abbrev zForms : Forms := Vector.replicate 3 zForm
abbrev Vec3 := Vector Int 3
abbrev cVec3 : Fl Vec3 := fVec 3 fI64
abbrev zVec3 : Vec3 := Vector.replicate 3 0
structure Sch where
  p : Int
  n : Int
  m : Int
  k : Int
  ps : List Prod
theorem fa24_4 : FA Try.prog 24 4 4 := ⟨⟨_, _, 1, Try.underlying24, rfl, rfl, by kernel_rfl, by decide⟩⟩
theorem ty22 : Ty Try.prog 22 1 false := Ty.mk' (by kernel_rfl) (by kernel_rfl)
theorem en34 : En Try.prog 34 := ⟨⟨_, Try.func34, by kernel_rfl, by kernel_rfl⟩⟩
theorem en96 : En Try.prog 96 := ⟨⟨_, Try.func96, by kernel_rfl, by kernel_rfl⟩⟩
theorem en97 : En Try.prog 97 := ⟨⟨_, Try.func97, by kernel_rfl, by kernel_rfl⟩⟩
theorem mixed : Try.prog.follows .mixedOrders = true := by kernel_rfl
theorem fa28_1 : FA Try.prog 28 1 1 := ⟨⟨_, _, 1, Try.underlying28, rfl, rfl, by kernel_rfl, by decide⟩⟩
theorem ty2 : Ty Try.prog 2 1 false := Ty.mk' (by kernel_rfl) (by kernel_rfl)
theorem fa28_2 : FA Try.prog 28 2 2 := ⟨⟨_, _, 1, Try.underlying28, rfl, rfl, by kernel_rfl, by decide⟩⟩
theorem fa28_3 : FA Try.prog 28 3 3 := ⟨⟨_, _, 1, Try.underlying28, rfl, rfl, by kernel_rfl, by decide⟩⟩
theorem sz5 : (Try.prog.info? 5).map (·.size) = some 1 := by kernel_rfl
theorem ty5 : Ty Try.prog 5 1 false := Ty.mk' (by kernel_rfl) (by kernel_rfl)
theorem ty56 : Ty Try.prog 56 9 true := Ty.mk' (by kernel_rfl) (by kernel_rfl)
theorem ze56 : (Try.prog.info? 56).bind (·.zero) = some (.agg #[.int .u8 0, .int .u8 0, .int .u8 0, .int .u8 0, .int .u8 0, .int .u8 0, .int .u8 0, .int .u8 0, .int .u8 0]) := by kernel_rfl
theorem ty28 : Ty Try.prog 28 5 true := Ty.mk' (by kernel_rfl) (by kernel_rfl)
theorem en111 : En Try.prog 111 := ⟨⟨_, Try.func111, by kernel_rfl, by kernel_rfl⟩⟩
theorem fa28_0 : FA Try.prog 28 0 0 := ⟨⟨_, _, 1, Try.underlying28, rfl, rfl, by kernel_rfl, by decide⟩⟩
theorem fa58_0 : FA Try.prog 58 0 0 := ⟨⟨_, _, 9, Try.underlying58, rfl, rfl, by kernel_rfl, by decide⟩⟩
theorem en112 : En Try.prog 112 := ⟨⟨_, Try.func112, by kernel_rfl, by kernel_rfl⟩⟩
theorem fa58_1 : FA Try.prog 58 1 9 := ⟨⟨_, _, 9, Try.underlying58, rfl, rfl, by kernel_rfl, by decide⟩⟩
theorem fa58_2 : FA Try.prog 58 2 18 := ⟨⟨_, _, 9, Try.underlying58, rfl, rfl, by kernel_rfl, by decide⟩⟩
theorem en113 : En Try.prog 113 := ⟨⟨_, Try.func113, by kernel_rfl, by kernel_rfl⟩⟩
theorem en72 : En Try.prog 72 := ⟨⟨_, Try.func72, by kernel_rfl, by kernel_rfl⟩⟩
theorem fa28_4 : FA Try.prog 28 4 4 := ⟨⟨_, _, 1, Try.underlying28, rfl, rfl, by kernel_rfl, by decide⟩⟩
theorem ty26 : Ty Try.prog 26 1 false := Ty.mk' (by kernel_rfl) (by kernel_rfl)
theorem sz58 : (Try.prog.info? 58).map (·.size) = some 27 := by kernel_rfl
theorem ty58 : Ty Try.prog 58 27 true := Ty.mk' (by kernel_rfl) (by kernel_rfl)
theorem en73 : En Try.prog 73 := ⟨⟨_, Try.func73, by kernel_rfl, by kernel_rfl⟩⟩
theorem ze28 : (Try.prog.info? 28).bind (·.zero) = some (.agg #[.int .i64 0, .int .i64 0, .int .i64 0, .int .i64 0, .slice none 0 0]) := by kernel_rfl
theorem el58 : El Try.prog 58 27 27 (.agg #[.int .u8 0, .int .u8 0, .int .u8 0, .int .u8 0, .int .u8 0, .int .u8 0, .int .u8 0, .int .u8 0, .int .u8 0, .int .u8 0, .int .u8 0, .int .u8 0, .int .u8 0, .int .u8 0, .int .u8 0, .int .u8 0, .int .u8 0, .int .u8 0, .int .u8 0, .int .u8 0, .int .u8 0, .int .u8 0, .int .u8 0, .int .u8 0, .int .u8 0, .int .u8 0, .int .u8 0]) := El.mk' (by kernel_rfl) (by kernel_rfl) (by decide) (by decide)
theorem sz56 : (Try.prog.info? 56).map (·.size) = some 9 := by kernel_rfl
theorem ze114 : (Try.prog.info? 114).bind (·.zero) = some (.agg #[.int .u8 0, .int .u8 0, .int .u8 0, .int .u8 0, .int .u8 0, .int .u8 0, .int .u8 0, .int .u8 0, .int .u8 0, .int .u8 0, .int .u8 0, .int .u8 0, .int .u8 0, .int .u8 0, .int .u8 0, .int .u8 0, .int .u8 0, .int .u8 0, .int .u8 0, .int .u8 0, .int .u8 0, .int .u8 0, .int .u8 0, .int .u8 0, .int .u8 0, .int .u8 0, .int .u8 0]) := by kernel_rfl
theorem ty114 : Ty Try.prog 114 27 true := Ty.mk' (by kernel_rfl) (by kernel_rfl)
theorem en48 : En Try.prog 48 := ⟨⟨_, Try.func48, by kernel_rfl, by kernel_rfl⟩⟩
abbrev O58 (ρ : Nat → Nat) (w w0 : World) (i : Nat) (v : Value) (xs : List Prod) : Prop := Ow (kf cProd) 58 ρ w w0.heap.size i v xs
theorem en74 : En Try.prog 74 := ⟨⟨_, Try.func74, by kernel_rfl, by kernel_rfl⟩⟩
theorem en35 : En Try.prog 35 := ⟨⟨_, Try.func35, by kernel_rfl, by kernel_rfl⟩⟩
theorem en36 : En Try.prog 36 := ⟨⟨_, Try.func36, by kernel_rfl, by kernel_rfl⟩⟩
theorem ze58 : (Try.prog.info? 58).bind (·.zero) = some (.agg #[.int .u8 0, .int .u8 0, .int .u8 0, .int .u8 0, .int .u8 0, .int .u8 0, .int .u8 0, .int .u8 0, .int .u8 0, .int .u8 0, .int .u8 0, .int .u8 0, .int .u8 0, .int .u8 0, .int .u8 0, .int .u8 0, .int .u8 0, .int .u8 0, .int .u8 0, .int .u8 0, .int .u8 0, .int .u8 0, .int .u8 0, .int .u8 0, .int .u8 0, .int .u8 0, .int .u8 0]) := by kernel_rfl
theorem fa82_0 : FA Try.prog 82 0 0 := ⟨⟨_, _, 9, Try.underlying82, rfl, rfl, by kernel_rfl, by decide⟩⟩
theorem ty55 : Ty Try.prog 55 9 true := Ty.mk' (by kernel_rfl) (by kernel_rfl)
theorem en114 : En Try.prog 114 := ⟨⟨_, Try.func114, by kernel_rfl, by kernel_rfl⟩⟩
theorem fa82_1 : FA Try.prog 82 1 9 := ⟨⟨_, _, 9, Try.underlying82, rfl, rfl, by kernel_rfl, by decide⟩⟩
theorem fa82_2 : FA Try.prog 82 2 18 := ⟨⟨_, _, 9, Try.underlying82, rfl, rfl, by kernel_rfl, by decide⟩⟩
theorem sz82 : (Try.prog.info? 82).map (·.size) = some 27 := by kernel_rfl
theorem ty82 : Ty Try.prog 82 27 true := Ty.mk' (by kernel_rfl) (by kernel_rfl)
theorem en75 : En Try.prog 75 := ⟨⟨_, Try.func75, by kernel_rfl, by kernel_rfl⟩⟩
theorem fa24_0 : FA Try.prog 24 0 0 := ⟨⟨_, _, 1, Try.underlying24, rfl, rfl, by kernel_rfl, by decide⟩⟩
theorem fa24_1 : FA Try.prog 24 1 1 := ⟨⟨_, _, 1, Try.underlying24, rfl, rfl, by kernel_rfl, by decide⟩⟩
theorem fa24_2 : FA Try.prog 24 2 2 := ⟨⟨_, _, 1, Try.underlying24, rfl, rfl, by kernel_rfl, by decide⟩⟩
theorem fa24_3 : FA Try.prog 24 3 3 := ⟨⟨_, _, 1, Try.underlying24, rfl, rfl, by kernel_rfl, by decide⟩⟩
theorem en37 : En Try.prog 37 := ⟨⟨_, Try.func37, by kernel_rfl, by kernel_rfl⟩⟩
theorem sz2 : (Try.prog.info? 2).map (·.size) = some 1 := by kernel_rfl
theorem en115 : En Try.prog 115 := ⟨⟨_, Try.func115, by kernel_rfl, by kernel_rfl⟩⟩
theorem en116 : En Try.prog 116 := ⟨⟨_, Try.func116, by kernel_rfl, by kernel_rfl⟩⟩
theorem en117 : En Try.prog 117 := ⟨⟨_, Try.func117, by kernel_rfl, by kernel_rfl⟩⟩
theorem ze69 : (Try.prog.info? 69).bind (·.zero) = some (.agg #[.int .i64 0, .int .i64 0, .int .i64 0]) := by kernel_rfl
theorem ty69 : Ty Try.prog 69 3 true := Ty.mk' (by kernel_rfl) (by kernel_rfl)
theorem en76 : En Try.prog 76 := ⟨⟨_, Try.func76, by kernel_rfl, by kernel_rfl⟩⟩
theorem el2 : El Try.prog 2 1 8 (.int .i64 0) := El.mk' (by kernel_rfl) (by kernel_rfl) (by decide) (by decide)
theorem en77 : En Try.prog 77 := ⟨⟨_, Try.func77, by kernel_rfl, by kernel_rfl⟩⟩
theorem en79 : En Try.prog 79 := ⟨⟨_, Try.func79, by kernel_rfl, by kernel_rfl⟩⟩
theorem en78 : En Try.prog 78 := ⟨⟨_, Try.func78, by kernel_rfl, by kernel_rfl⟩⟩
theorem sz3 : (Try.prog.info? 3).map (·.size) = some 1 := by kernel_rfl
theorem ty3 : Ty Try.prog 3 1 false := Ty.mk' (by kernel_rfl) (by kernel_rfl)
theorem en166 : En Try.prog 166 := ⟨⟨_, Try.func166, by kernel_rfl, by kernel_rfl⟩⟩
theorem en155 : En Try.prog 155 := ⟨⟨_, Try.func155, by kernel_rfl, by kernel_rfl⟩⟩
theorem en120 : En Try.prog 120 := ⟨⟨_, Try.func120, by kernel_rfl, by kernel_rfl⟩⟩
theorem el3 : El Try.prog 3 1 8 (.int .i64 0) := El.mk' (by kernel_rfl) (by kernel_rfl) (by decide) (by decide)
theorem en119 : En Try.prog 119 := ⟨⟨_, Try.func119, by kernel_rfl, by kernel_rfl⟩⟩
theorem en80 : En Try.prog 80 := ⟨⟨_, Try.func80, by kernel_rfl, by kernel_rfl⟩⟩
theorem en81 : En Try.prog 81 := ⟨⟨_, Try.func81, by kernel_rfl, by kernel_rfl⟩⟩
theorem en83 : En Try.prog 83 := ⟨⟨_, Try.func83, by kernel_rfl, by kernel_rfl⟩⟩
theorem en38 : En Try.prog 38 := ⟨⟨_, Try.func38, by kernel_rfl, by kernel_rfl⟩⟩
theorem en39 : En Try.prog 39 := ⟨⟨_, Try.func39, by kernel_rfl, by kernel_rfl⟩⟩
theorem en121 : En Try.prog 121 := ⟨⟨_, Try.func121, by kernel_rfl, by kernel_rfl⟩⟩
theorem en84 : En Try.prog 84 := ⟨⟨_, Try.func84, by kernel_rfl, by kernel_rfl⟩⟩
theorem en40 : En Try.prog 40 := ⟨⟨_, Try.func40, by kernel_rfl, by kernel_rfl⟩⟩
theorem en41 : En Try.prog 41 := ⟨⟨_, Try.func41, by kernel_rfl, by kernel_rfl⟩⟩
theorem en42 : En Try.prog 42 := ⟨⟨_, Try.func42, by kernel_rfl, by kernel_rfl⟩⟩
theorem ty24 : Ty Try.prog 24 5 true := Ty.mk' (by kernel_rfl) (by kernel_rfl)
theorem en10 : En Try.prog 10 := ⟨⟨_, Try.func10, by kernel_rfl, by kernel_rfl⟩⟩
theorem en12 : En Try.prog 12 := ⟨⟨_, Try.func12, by kernel_rfl, by kernel_rfl⟩⟩
theorem en14 : En Try.prog 14 := ⟨⟨_, Try.func14, by kernel_rfl, by kernel_rfl⟩⟩
theorem en89 : En Try.prog 89 := ⟨⟨_, Try.func89, by kernel_rfl, by kernel_rfl⟩⟩
theorem en88 : En Try.prog 88 := ⟨⟨_, Try.func88, by kernel_rfl, by kernel_rfl⟩⟩
theorem en122 : En Try.prog 122 := ⟨⟨_, Try.func122, by kernel_rfl, by kernel_rfl⟩⟩
theorem en51 : En Try.prog 51 := ⟨⟨_, Try.func51, by kernel_rfl, by kernel_rfl⟩⟩
theorem en50 : En Try.prog 50 := ⟨⟨_, Try.func50, by kernel_rfl, by kernel_rfl⟩⟩
theorem en85 : En Try.prog 85 := ⟨⟨_, Try.func85, by kernel_rfl, by kernel_rfl⟩⟩
theorem en43 : En Try.prog 43 := ⟨⟨_, Try.func43, by kernel_rfl, by kernel_rfl⟩⟩
theorem en44 : En Try.prog 44 := ⟨⟨_, Try.func44, by kernel_rfl, by kernel_rfl⟩⟩
theorem sz28 : (Try.prog.info? 28).map (·.size) = some 5 := by kernel_rfl
theorem el28 : El Try.prog 28 5 56 (.agg #[.int .i64 0, .int .i64 0, .int .i64 0, .int .i64 0, .slice none 0 0]) := El.mk' (by kernel_rfl) (by kernel_rfl) (by decide) (by decide)
theorem en86 : En Try.prog 86 := ⟨⟨_, Try.func86, by kernel_rfl, by kernel_rfl⟩⟩
theorem en156 : En Try.prog 156 := ⟨⟨_, Try.func156, by kernel_rfl, by kernel_rfl⟩⟩
theorem en123 : En Try.prog 123 := ⟨⟨_, Try.func123, by kernel_rfl, by kernel_rfl⟩⟩
theorem en125 : En Try.prog 125 := ⟨⟨_, Try.func125, by kernel_rfl, by kernel_rfl⟩⟩
theorem en124 : En Try.prog 124 := ⟨⟨_, Try.func124, by kernel_rfl, by kernel_rfl⟩⟩
theorem en87 : En Try.prog 87 := ⟨⟨_, Try.func87, by kernel_rfl, by kernel_rfl⟩⟩
theorem en45 : En Try.prog 45 := ⟨⟨_, Try.func45, by kernel_rfl, by kernel_rfl⟩⟩
theorem en47 : En Try.prog 47 := ⟨⟨_, Try.func47, by kernel_rfl, by kernel_rfl⟩⟩
theorem en46 : En Try.prog 46 := ⟨⟨_, Try.func46, by kernel_rfl, by kernel_rfl⟩⟩
theorem en17 : En Try.prog 17 := ⟨⟨_, Try.func17, by kernel_rfl, by kernel_rfl⟩⟩
theorem en18 : En Try.prog 18 := ⟨⟨_, Try.func18, by kernel_rfl, by kernel_rfl⟩⟩
theorem en49 : En Try.prog 49 := ⟨⟨_, Try.func49, by kernel_rfl, by kernel_rfl⟩⟩
theorem eqv5 : Vl Try.prog 5 fU8 (fun b : UInt8 => .int .u8 (b.toNat : Int)) := Vl.cell ty5 (fun _ => rfl) rfl
theorem eqc56 : EqC Try.prog 56 (fun v : Form => .agg (cForm.enc v).toArray) 2 := EqC.vec (0 : UInt8) Try.underlying56 eqv5 (EqC.u8 Try.underlying5)
theorem eq56 : ∀ (x y : Form) (w : World), (Op.equal 56 (.agg (cForm.enc x).toArray) (.agg (cForm.enc y).toArray)).run Try.prog w = .ok (decide (x = y)) w := EqC.top eqc56 (by decide)
theorem gt56 : Try.prog.eqGuardType Try.prog.depth 56 = false := by kernel_rfl
def zSch : Sch := ⟨0, 0, 0, 0, []⟩
/-- a scheme that lies in a row: its slice is read -/
def kSch : Kd Sch where
  sz := 5
  E := []
  K := fun w x cs => ∃ u, cs = [.int .i64 x.p, .int .i64 x.n, .int .i64 x.m, .int .i64 x.k, u] ∧ Ro (kf cProd) w u x.ps
  M := fun _ _ _ _ _ => False
  K_len := fun ⟨u, h, _⟩ => by rw [h]; rfl
  K_one := fun ⟨u, h, hr⟩ v hv => by rw [h] at hv; exact one_sch hr.one v hv
  K_below := fun hb ⟨u, h, hr⟩ => ⟨u, h, hr.belowK hb⟩
  K_of_M := fun h => h.elim
  M_mono := fun _ h => h
  M_bound := fun h => h.elim
  M_move := fun _ h => h
  M_lower := fun _ h => h
theorem Ro.el_sch {w : World} {v : Value} {xs : List Sch} {p : Int} (h : Ro kSch w v xs) (h0 : 0 ≤ p) (h1 : p < xs.length) : ∃ ad c u, v = .slice (some ad) xs.length c ∧ Cl w ad (p.toNat * 5) [.int .i64 (gl zSch xs p).p, .int .i64 (gl zSch xs p).n, .int .i64 (gl zSch xs p).m, .int .i64 (gl zSch xs p).k, u] ∧ Ro (kf cProd) w u (gl zSch xs p).ps := by
  obtain ⟨A, c, rfl, h2, h3⟩ := h
  obtain ⟨ad, cs, rfl, _, hK, hc⟩ := Kd.C_get h3 zSch p h0 h1
  obtain ⟨u, rfl, hr⟩ := hK
  exact ⟨ad, c, u, rfl, hc, hr⟩
theorem eqc58 : EqC Try.prog 58 (fun v : Prod => .agg (cProd.enc v).toArray) 3 := EqC.three (d := cForm) Try.underlying58 (by kernel_rfl) ⟨by decide, by decide, by decide⟩ ⟨rfl, rfl, rfl⟩ ⟨rfl, rfl, rfl⟩ (Vl.agg ty56) eqc56
theorem eq58 : ∀ (x y : Prod) (w : World), (Op.equal 58 (.agg (cProd.enc x).toArray) (.agg (cProd.enc y).toArray)).run Try.prog w = .ok (decide (x = y)) w := EqC.top eqc58 (by decide)
theorem gt58 : Try.prog.eqGuardType Try.prog.depth 58 = false := by kernel_rfl
end Go.Proofs.YtB
