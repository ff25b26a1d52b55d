/- Words of this seat's own: what a law's arguments hold: numbers, arrays, structs, slices, by their codes. -/
import Derived.Test.YtbhaeajdabgnhaaCsB12
import Derived.OpenShut
import Derived.ProofKit
set_option linter.unusedVariables false
set_option linter.unusedSimpArgs false
set_option linter.unusedSectionVars false
namespace Go.Proofs.YtB
open Go Go.RowKit Go.ChangeShapes Go.WideShapes
open Go.Proofs.YtbhaeajdabgnhaaW.PrintWords
variable {H : Type} {encd : TypeId × Value → H} {P : Program} {w : World} {base : Nat} {spare : Nat → Bool} {held : Bool} {α β γ : Type} {t e : TypeId}
/-- what reads as type t is a code of d's, of a value that 'ok' holds of -/
def Rd (P : Program) (t : TypeId) (d : Fl α) (ok : α → Prop) : Prop :=
  ∀ {H : Type} {encd : TypeId × Value → H} {w : World} {base : Nat} {spare : Nat → Bool} {held : Bool} {fuel : Nat} {cs : List Value} {x : DataW H × List MemPlace}, DataW.trod encd P w base spare held fuel t cs = some x → ∃ a, cs = d.enc a ∧ ok a
theorem Rd.u8 (ht : P.underlying t = some (.int .u8)) : Rd P t fU8 (fun _ => True) := by
  intro H encd w base spare held fuel cs x h
  obtain ⟨n, rfl, _, hw⟩ := DataW.trod_int ht h
  have hb : 0 ≤ n ∧ n ≤ 255 := by
    simp only [Lit.wf, Bool.and_eq_true, decide_eq_true_eq] at hw
    have h1 : IntKind.min .u8 = 0 := by rfl
    have h2 : IntKind.max .u8 = 255 := by rfl
    rw [h1, h2] at hw
    exact hw
  refine ⟨UInt8.ofNat n.toNat, ?_, trivial⟩
  have : ((UInt8.ofNat n.toNat).toNat : Int) = n := by
    rw [UInt8.toNat_ofNat']
    omega
  show [Value.int .u8 n] = [Value.int .u8 ((UInt8.ofNat n.toNat).toNat : Int)]
  rw [this]
theorem Rd.i64 (ht : P.underlying t = some (.int .i64)) : Rd P t fI64 (fun n => -9223372036854775808 ≤ n ∧ n ≤ 9223372036854775807) := by
  intro H encd w base spare held fuel cs x h
  obtain ⟨n, rfl, _, hw⟩ := DataW.trod_int ht h
  refine ⟨n, rfl, ?_⟩
  simp only [Lit.wf, Bool.and_eq_true, decide_eq_true_eq] at hw
  have h1 : IntKind.min .i64 = -9223372036854775808 := by rfl
  have h2 : IntKind.max .i64 = 9223372036854775807 := by rfl
  rw [h1, h2] at hw
  exact hw
theorem chunks (d : Fl α) : ∀ (l : List α) (cs : List Value), cs.length = l.length * d.n → (∀ i, (h : i < l.length) → (cs.drop (i * d.n)).take d.n = d.enc l[i]) → cs = l.flatMap d.enc
  | [], cs, h, _ => by
    have : cs = [] := List.eq_nil_of_length_eq_zero (by simpa using h)
    simp [this]
  | x :: l, cs, h, hi => by
    have h0 := hi 0 (by simp)
    simp only [Nat.zero_mul, List.drop_zero, List.getElem_cons_zero] at h0
    have hl : (cs.drop d.n).length = l.length * d.n := by
      rw [List.length_drop, h, List.length_cons, Nat.succ_mul]
      omega
    have := chunks d l (cs.drop d.n) hl (fun i hlt => by
      have := hi (i + 1) (by simpa using hlt)
      rw [Nat.succ_mul, Nat.add_comm, ← List.drop_drop] at this
      simpa using this)
    rw [List.flatMap_cons, ← this, ← h0, List.take_append_drop]
theorem pick_list {Q : Nat → α → Prop} : ∀ (n : Nat), (∀ i, i < n → ∃ a, Q i a) → ∃ l : List α, l.length = n ∧ ∀ i, (h : i < l.length) → Q i l[i]
  | 0, _ => ⟨[], rfl, fun i h => by cases h⟩
  | n + 1, h => by
    obtain ⟨l, hl, hq⟩ := pick_list n (fun i hi => h i (by omega))
    obtain ⟨a, ha⟩ := h n (by omega)
    refine ⟨l ++ [a], by simp [hl], fun i hi => ?_⟩
    rcases Nat.lt_or_ge i l.length with h1 | h1
    · rw [List.getElem_append_left h1]
      exact hq i h1
    · have : i = n := by
        simp at hi
        omega
      subst this
      rw [List.getElem_append_right h1]
      simpa [hl] using ha
theorem Rd.vec {m : Nat} {d : Fl α} {ok : α → Prop} (hT : P.underlying t = some (.array m e)) (hc : P.cellsOf e = d.n) (hct : P.cellsOf t = m * d.n) (he : Rd P e d ok) : Rd P t (fVec m d) (fun v => ∀ i, (h : i < m) → ok v[i]) := by
  intro H encd w base spare held fuel cs x h
  obtain ⟨xs, n, _, _, hl, hx, hi⟩ := DataW.trod_array hT h
  rw [hc] at hi
  rw [hct] at hl
  obtain ⟨l, hll, hq⟩ := pick_list (Q := fun i a => (cs.drop (i * d.n)).take d.n = d.enc a ∧ ok a) m (fun i him => by
    have h1 := hi i him
    rw [List.getElem?_eq_getElem (by omega)] at h1
    obtain ⟨a, h2, h3⟩ := he h1
    exact ⟨a, h2, h3⟩)
  refine ⟨⟨l.toArray, by simpa using hll⟩, ?_, fun i hm => ?_⟩
  · have := chunks d l cs (by rw [hl, hll]) (fun i h => (hq i h).1)
    simpa [fVec] using this
  · have := (hq i (by omega)).2
    simpa using this
/-- a struct of three -/
theorem Rd.three {f0 f1 f2 : Field} {d : Fl α} {ok : α → Prop} (hT : P.underlying t = some (.struct #[f0, f1, f2])) (ht : f0.type = e ∧ f1.type = e ∧ f2.type = e) (ho : f0.offset = 0 ∧ f1.offset = d.n ∧ f2.offset = d.n + d.n) (hc : P.cellsOf e = d.n) (hct : P.cellsOf t = 3 * d.n) (he : Rd P e d ok) :
    Rd P t (fPair d (fPair d d)) (fun v => ok v.1 ∧ ok v.2.1 ∧ ok v.2.2) := by
  intro H encd w base spare held fuel cs x h
  obtain ⟨xs, n, _, _, hl, hx, hi⟩ := DataW.trod_struct hT h
  have hx3 : xs.length = 3 := by simpa using hx
  have g0 := hi 0 f0 rfl
  have g1 := hi 1 f1 rfl
  have g2 := hi 2 f2 rfl
  rw [List.getElem?_eq_getElem (by omega), ht.1, ho.1, hc] at g0
  rw [List.getElem?_eq_getElem (by omega), ht.2.1, ho.2.1, hc] at g1
  rw [List.getElem?_eq_getElem (by omega), ht.2.2, ho.2.2, hc] at g2
  obtain ⟨a, ea, oa⟩ := he g0
  obtain ⟨b, eb, ob⟩ := he g1
  obtain ⟨c, ec, oc⟩ := he g2
  refine ⟨(a, b, c), ?_, oa, ob, oc⟩
  have := chunks d [a, b, c] cs (by rw [hl, hct]; rfl) (fun i hi => by
    match i, hi with
    | 0, _ => simpa using ea
    | 1, _ => simpa using eb
    | 2, _ => simpa [Nat.succ_mul] using ec)
  simpa [fPair] using this
/-- a slice of what has a code -/
theorem Rd.slice {d : Fl α} {ok : α → Prop} (hT : P.underlying t = some (.slice e)) (hc : P.cellsOf e = d.n) (he : Rd P e d ok) {fuel : Nat} {v : Value} {x : DataW H × List MemPlace} (h : DataW.trod encd P w base spare held fuel t [v] = some x) :
    ∃ xs : List α, Ro (kf d) w v xs ∧ ∀ a ∈ xs, ok a := by
  rcases DataW.trod_slice hT h with ⟨h1, _⟩ | ⟨a, len, cap, elems, rest, n, _, h1, _, _, hlc, hcap, hel, hi, _, _⟩
  · injection h1 with h1 _
    subst h1
    exact ⟨[], Ro.nil _ _ _, fun a h => by cases h⟩
  · injection h1 with h1 _
    subst h1
    rw [hc] at hi
    obtain ⟨l, hll, hq⟩ := pick_list (Q := fun i b => (∀ j, j < d.n → w.cell? ((a.add (i * d.n)).add j) = (d.enc b)[j]?) ∧ ok b) len (fun i hil => by
      have h2 := hi i hil
      rw [List.getElem?_eq_getElem (by omega)] at h2
      obtain ⟨cs, hcs, h3⟩ := Option.bind_eq_some_iff.1 h2
      obtain ⟨b, rfl, hb⟩ := he h3
      obtain ⟨_, _, h4⟩ := World.cells?_some hcs
      exact ⟨b, h4, hb⟩)
    have hcap' : cap ≤ 9223372036854775807 := hcap
    refine ⟨l, ⟨some a, cap, by rw [hll], by omega, rfl, by omega, fun _ => ⟨a, rfl, fun j p hj => ?_⟩⟩, fun b hb => ?_⟩
    · obtain ⟨hjl, rfl⟩ := List.getElem?_eq_some_iff.1 hj
      refine ⟨d.enc l[j], d.len _, rfl, fun i u hu => ?_⟩
      have hi' : i < d.n := by
        have := (List.getElem?_eq_some_iff.1 hu).1
        rwa [d.len] at this
      have := (hq j hjl).1 i hi'
      rw [hu, Go.Addr.add_add] at this
      exact this
    · obtain ⟨j, hj, rfl⟩ := List.getElem_of_mem hb
      exact (hq j hj).2
end Go.Proofs.YtB
