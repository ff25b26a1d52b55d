/- Words of this seat's own: '==' of arrays and structs without memory is equality. -/
import Derived.Test.YtbhaeajdabgnhaaCsB9
import Derived.ChangeKeysEq
import Derived.Laws.StructEq
set_option linter.unusedVariables false
set_option linter.unusedSimpArgs false
set_option linter.unusedSectionVars false
namespace Go.Proofs.YtB
open Go Go.RowKit
open Go.Proofs.YtbhaeajdabgnhaaW.PrintWords
variable {P : Program} {α β : Type} {T e : TypeId} {w : World}
/-- values of type e, coded by d, as Go has them -/
structure Vl (P : Program) (e : TypeId) (d : Fl α) (val : α → Value) : Prop where
  part : ∀ (xs : List Value) (off : Nat) (x : α) (w : World), (xs.drop off).take d.n = d.enc x → (part e xs.toArray off).run P w = .ok (val x) w
  size : ∃ i, P.info? e = some i ∧ i.size = d.n
theorem Vl.agg {d : Fl α} (h : Ty P e d.n true) : Vl P e d (fun x => .agg (d.enc x).toArray) :=
  ⟨fun xs off x w hx => by
    have e1 : xs.toArray.extract off (off + d.n) = ((xs.drop off).take d.n).toArray := by
      simp [List.extract_toArray, List.extract_eq_take_drop]
    simp [Go.part, run_isAgg h, run_size h, e1, hx], h.s⟩
theorem Vl.cell {d : Fl α} {val : α → Value} (h : Ty P e d.n false) (hd : ∀ x, d.enc x = [val x]) (hn : d.n = 1) : Vl P e d val :=
  ⟨fun xs off x w hx => by
    rw [hd, hn] at hx
    have h1 : xs[off]? = some (val x) := by
      have h2 := congrArg (·[0]?) hx
      simpa using h2
    simp [Go.part, run_isAgg h, h1], h.s⟩
def EqC (P : Program) (T : TypeId) [DecidableEq α] (val : α → Value) (dep : Nat) : Prop := ∀ (D : Nat) (x y : α) (w : World), (Op.equalIn (D + dep) T (val x) (val y)).run P w = .ok (decide (x = y)) w
theorem EqC.u8 (h : P.underlying T = some (.int .u8)) : EqC P T (fun b : UInt8 => .int .u8 (b.toNat : Int)) 1 := by
  intro D x y w
  rw [run_equalIn_int (P := P) w D T .u8 .u8 _ _ h]
  congr 1
  rw [Bool.eq_iff_iff]
  simp only [beq_iff_eq, decide_eq_true_eq]
  exact ⟨fun h => UInt8.toNat_inj.1 (Int.ofNat_inj.1 h), fun h => by rw [h]⟩
theorem EqC.i64 (h : P.underlying T = some (.int .i64)) : EqC P T (fun b : Int => .int .i64 b) 1 := by
  intro D x y w
  rw [run_equalIn_int (P := P) w D T .i64 .i64 _ _ h]
  congr 1
theorem EqC.vec [DecidableEq α] {m : Nat} {d : Fl α} {val : α → Value} {dep : Nat} (z : α) (hT : P.underlying T = some (.array m e)) (hv : Vl P e d val) (he : EqC P e val dep) : EqC P T (fun v : Vector α m => .agg ((fVec m d).enc v).toArray) (dep + 1) := by
  intro D x y w
  obtain ⟨i, hi, hs⟩ := hv.size
  have hc : P.cellsOf e = d.n := by simp [Program.cellsOf, hi, hs]
  rw [← Nat.add_assoc, run_equalIn_array (P := P) w (D + dep) _ _ hT hi, hc]
  have key : ∀ (is : List Nat), (∀ j ∈ is, j < m) → (Op.eqItems (D + dep) e d.n ((fVec m d).enc x).toArray ((fVec m d).enc y).toArray is).run P w = .ok (decide (∀ j ∈ is, x.toList[j]? = y.toList[j]?)) w := by
    intro is
    induction is with
    | nil => intro _; simp [Op.eqItems]
    | cons j is ih =>
      intro hj
      have hjm : j < m := hj j (by simp)
      have px := hv.part ((fVec m d).enc x) (j * d.n) (x.toList.getD j z) w (flatMap_get d x.toList j z (by simpa using hjm))
      have py := hv.part ((fVec m d).enc y) (j * d.n) (y.toList.getD j z) w (flatMap_get d y.toList j z (by simpa using hjm))
      have hx : x.toList[j]? = some (x.toList.getD j z) := by
        rw [List.getD_eq_getElem?_getD, List.getElem?_eq_getElem (by simpa using hjm)]; rfl
      have hy : y.toList[j]? = some (y.toList.getD j z) := by
        rw [List.getD_eq_getElem?_getD, List.getElem?_eq_getElem (by simpa using hjm)]; rfl
      simp only [Op.eqItems, Sem.run_bind, px, py, he D, Result.andThen_ok]
      by_cases hxy : x.toList.getD j z = y.toList.getD j z
      · rw [decide_eq_true hxy]
        simp only [Bool.not_true, Bool.false_eq_true, if_false]
        rw [ih (fun j hj' => hj j (by simp [hj']))]
        congr 1
        rw [Bool.eq_iff_iff]
        simp only [decide_eq_true_eq, List.mem_cons, forall_eq_or_imp, hx, hy, hxy, true_and]
      · rw [decide_eq_false hxy]
        simp only [Bool.not_false, if_true, Sem.run_pure]
        congr 1
        symm
        rw [decide_eq_false_iff_not]
        intro h
        have := h j (by simp)
        rw [hx, hy] at this
        injection this with this
        exact hxy this
  rw [key (List.range m) (fun j hj => List.mem_range.1 hj)]
  congr 1
  rw [Bool.eq_iff_iff]
  simp only [decide_eq_true_eq, List.mem_range]
  constructor
  · intro h
    apply Vector.toList_inj.1
    apply List.ext_getElem?
    intro j
    rcases Nat.lt_or_ge j m with hj | hj
    · exact h j hj
    · rw [List.getElem?_eq_none (by simpa using hj), List.getElem?_eq_none (by simpa using hj)]
  · rintro rfl j _
    rfl
/-- a struct of three -/
theorem EqC.three [DecidableEq α] {d : Fl α} {dep : Nat} {f0 f1 f2 : Field} (hT : P.underlying T = some (.struct #[f0, f1, f2])) (hp : P.stoodInHeld T = false) (hn : (f0.name == "_") = false ∧ (f1.name == "_") = false ∧ (f2.name == "_") = false) (ht : f0.type = e ∧ f1.type = e ∧ f2.type = e) (ho : f0.offset = 0 ∧ f1.offset = d.n ∧ f2.offset = d.n + d.n)
    (hv : Vl P e d (fun x => .agg (d.enc x).toArray)) (he : EqC P e (fun x : α => .agg (d.enc x).toArray) dep) : EqC P T (fun v : α × α × α => .agg ((fPair d (fPair d d)).enc v).toArray) (dep + 1) := by
  intro D x y w
  have hf : P.fieldsOf T = #[f0, f1, f2] := by simp [Program.fieldsOf, hT]
  rw [← Nat.add_assoc, run_equalIn_struct (P := P) w (D + dep) T _ _ (by rw [hf]; exact hT) hp, hf]
  have n0 : f0.name ≠ "_" := by simpa using hn.1
  have n1 : f1.name ≠ "_" := by simpa using hn.2.1
  have n2 : f2.name ≠ "_" := by simpa using hn.2.2
  have p0 : ∀ (v : α × α × α) w, (Go.part f0.type ((fPair d (fPair d d)).enc v).toArray f0.offset).run P w = .ok (.agg (d.enc v.1).toArray) w := fun v w => by
    rw [ht.1, ho.1]
    exact hv.part _ 0 v.1 w ((Lens.fst d (fPair d d)).get v)
  have p1 : ∀ (v : α × α × α) w, (Go.part f1.type ((fPair d (fPair d d)).enc v).toArray f1.offset).run P w = .ok (.agg (d.enc v.2.1).toArray) w := fun v w => by
    rw [ht.2.1, ho.2.1]
    exact hv.part _ d.n v.2.1 w ((Lens.comp (Lens.snd d (fPair d d)) (Lens.fst d d)).get v)
  have p2 : ∀ (v : α × α × α) w, (Go.part f2.type ((fPair d (fPair d d)).enc v).toArray f2.offset).run P w = .ok (.agg (d.enc v.2.2).toArray) w := fun v w => by
    rw [ht.2.2, ho.2.2]
    exact hv.part _ (d.n + d.n) v.2.2 w ((Lens.comp (Lens.snd d (fPair d d)) (Lens.snd d d)).get v)
  have he0 : ∀ (f : Field) (p q : α) w, f.type = e → (Op.equalIn (D + dep) f.type (.agg (d.enc p).toArray) (.agg (d.enc q).toArray)).run P w = .ok (decide (p = q)) w := fun f p q w h => by
    rw [h]
    exact he D p q w
  simp only [Op.eqFields, n0, n1, n2, ne_eq, not_false_eq_true, if_true, Sem.run_bind, p0, p1, p2, Result.andThen_ok, he0 f0 _ _ _ ht.1]
  by_cases h0 : x.1 = y.1
  · simp only [h0, decide_true, Bool.not_true, Bool.false_eq_true, if_false, Sem.run_bind, p1, p2, Result.andThen_ok, he0 f1 _ _ _ ht.2.1]
    by_cases h1 : x.2.1 = y.2.1
    · simp only [h1, decide_true, Bool.not_true, Bool.false_eq_true, if_false, Sem.run_bind, p2, Result.andThen_ok, he0 f2 _ _ _ ht.2.2]
      by_cases h2 : x.2.2 = y.2.2
      · have : x = y := Prod.ext h0 (Prod.ext h1 h2)
        simp [h2, this]
      · have : x ≠ y := fun h => h2 (by rw [h])
        simp [h2, this]
    · have : x ≠ y := fun h => h1 (by rw [h])
      simp [h1, this]
  · have : x ≠ y := fun h => h0 (by rw [h])
    simp [h0, this]
theorem EqC.top [DecidableEq α] {val : α → Value} {dep : Nat} (h : EqC P T val dep) (hd : dep ≤ 10000) : ∀ (x y : α) (w : World), (Op.equal T (val x) (val y)).run P w = .ok (decide (x = y)) w := by
  intro x y w
  have := h (10000 - dep) x y w
  rw [Nat.sub_add_cancel hd] at this
  exact this
theorem Cl.ext {ρ ρ' : Nat → Nat} {w' : World} {ad : Addr} {k : Nat} {cs : List Value} (h : Cl w ad k cs) (hE : Ext ρ w ρ' w') : Cl w' ad k cs := h.below hE.below
section
variable {Q : Exit → Act → World → Prop} {n : Nat} {L : List (Nat × Value)} {w0 : World} {l r : List Oper} {o : Oper} {Γ : (Nat → Nat) → World → Prop} {i : Nat}
theorem LastsL.nil : LastsL [] := trivial
theorem LastsL.cons {R : (Nat → Nat) → World → Value → Prop} {r : List ((Nat → Nat) → World → Value → Prop)} (h : Lasts R) (hr : LastsL r) : LastsL (R :: r) := ⟨h, hr⟩
theorem StepsB.nil {Rl : List ((Nat → Nat) → World → Value → Prop)} : StepsB P w0 n L l Q Γ Rl i [] := trivial
theorem StepsB.cons {Rl : List ((Nat → Nat) → World → Value → Prop)} (h : StepB P w0 n L l Q Γ Rl i o) (hr : StepsB P w0 n L l Q Γ Rl (i + 1) r) : StepsB P w0 n L l Q Γ Rl i (o :: r) := ⟨h, hr⟩
end
end Go.Proofs.YtB
