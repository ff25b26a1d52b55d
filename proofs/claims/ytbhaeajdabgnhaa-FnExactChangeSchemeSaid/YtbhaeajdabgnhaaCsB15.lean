/- Words of this seat's own: a slice of one's own, cut short, cleared from a place on. -/
import Derived.Test.YtbhaeajdabgnhaaCsB14
import Derived.Test.YtbhaeajdabgnhaaCsB13
set_option linter.unusedVariables false
set_option linter.unusedSimpArgs false
set_option linter.unusedSectionVars false
namespace Go.Proofs.YtB
open Go Go.RowKit
open Go.Proofs.YtbhaeajdabgnhaaW.PrintWords
variable {P : Program} {n : Nat} {a : Act} {L : List (Nat × Value)} {w w' w0 ws : World} {Q : Exit → Act → World → Prop} {ops : Array Oper} {rest : List Oper} {o : Oper}
variable {x y : Operand} {p q : Int} {T T' ty : TypeId} {pos : String} {af : Array Edge} {gd : Option (Nat × Bool)} {dd : Option Tmp} {ad : Addr} {k : Nat} {cs : List Value} {m : Nat}
variable {ρ ρ' ρ0 : Nat → Nat} {i j g e B : Nat} {α β : Type} {d : Kd α} {xs ys : List α} {v u : Value}
def cutV (v : Value) (lo hi sz : Nat) : Value := match v with
  | .slice A _ c => .slice (if c = lo then A else A.map (·.add (lo * sz))) (hi - lo) (c - lo)
  | v => v
theorem r_cut_v {sz : Nat} {ol oh : Option Operand} {lo hi : Int} (hT : P.underlying T = some (.slice e)) (hs : (P.info? e).map (·.size) = some sz) (hd : d.sz = sz) (hv : Ro d w v xs) (hf : Fr n a L) (hx : ev L x = some v)
    (hl : (ol = none ∧ lo = 0) ∨ (∃ z, ol = some z ∧ ev L z = some (.int .i64 lo))) (hh : (oh = none ∧ hi = xs.length) ∨ (∃ z, oh = some z ∧ ev L z = some (.int .i64 hi))) (h0 : 0 ≤ lo) (h1 : lo ≤ hi) (h2 : hi ≤ xs.length) :
    (execOp a.eval ⟨dd, .slice T x ol oh none, ty, pos, af, gd⟩).run P w = .ok (.value (cutV v lo.toNat hi.toNat sz)) w := by
  obtain ⟨lo, rfl⟩ := Int.eq_ofNat_of_zero_le h0
  obtain ⟨hi, rfl⟩ := Int.eq_ofNat_of_zero_le (show 0 ≤ hi by omega)
  obtain ⟨A, c, rfl, hc, hC⟩ := hv
  have hl' : (ol.map a.eval = none ∧ lo = 0) ∨ ol.map a.eval = some (.int .i64 (lo : Int)) := by
    rcases hl with ⟨rfl, h⟩ | ⟨z, rfl, h⟩
    · exact .inl ⟨rfl, by omega⟩
    · exact .inr (by simp [hf.ev h])
  have hh' : (oh.map a.eval = none ∧ hi = xs.length) ∨ oh.map a.eval = some (.int .i64 (hi : Int)) := by
    rcases hh with ⟨rfl, h⟩ | ⟨z, rfl, h⟩
    · exact .inl ⟨rfl, by omega⟩
    · exact .inr (by simp [hf.ev h])
  have hr := cut_run (P := P) (A := A) (c := c) hT hs hl' hh' (by omega) (by omega) hc w
  simp only [execOp, hf.ev hx, Option.map_none, Sem.run_bind, hr, Result.andThen_ok, Sem.run_pure, Int.toNat_natCast]
  rfl
theorem ro_cutV {lo hi : Int} (hv : Ro d w v xs) (h0 : 0 ≤ lo) (h1 : lo ≤ hi) (h2 : hi ≤ xs.length) : Ro d w (cutV v lo.toNat hi.toNat d.sz) ((xs.take hi.toNat).drop lo.toNat) := by
  obtain ⟨A, c, rfl, hc, hC⟩ := hv
  exact ro_cut ⟨A, c, rfl, hc, hC⟩ (by omega) (by omega)
/-- the first k of one's own are one's own -/
theorem Ow.take {hi : Int} (h : Ow d e ρ w B i v xs) (h0 : 0 ≤ hi) (h1 : hi ≤ xs.length) (sz : Nat) : Ow d e ρ w B i (cutV v 0 hi.toNat sz) (xs.take hi.toNat) := by
  obtain ⟨k, rfl⟩ := Int.eq_ofNat_of_zero_le h0
  simp only [Int.toNat_natCast]
  have hk : k ≤ xs.length := by omega
  obtain ⟨hown, inner, ho, hr⟩ := h
  rcases ho.2 with ⟨rfl, h3⟩ | ⟨g, cap, cur, rfl, hb, hh, hnc, hcap, hcs, htk⟩
  · have : xs = [] := List.eq_nil_of_length_eq_zero h3
    subst this
    have hk0 : k = 0 := by simpa using hk
    subst hk0
    exact Ow.nil d e ρ w B i
  · have hv : cutV (.slice (some ⟨g, 0, none⟩) xs.length cap) 0 k sz = .slice (some ⟨g, 0, none⟩) k cap := by
      simp [cutV, Addr.add]
    rw [hv]
    have hl : (xs.take k).length = k := by simp; omega
    have hm : k * d.sz ≤ xs.length * d.sz := Nat.mul_le_mul_right _ hk
    refine ⟨fun b hb' => hown b (by simpa [Value.ownBlock] using hb'), inner.take (k * d.sz), ⟨by rw [List.length_take, hr.1, hl]; omega, .inr ⟨g, cap, cur, by rw [hl], hb, hh, by omega, hcap, hcs, ?_⟩⟩, ?_, fun j p hj => ?_⟩
    · rw [hl, ← htk, List.take_take, Nat.min_eq_left hm]
    · rw [List.length_take, hr.1, hl]; omega
    · rw [List.getElem?_take] at hj
      split at hj
      · rename_i hjk
        have h5 : j * d.sz + d.sz ≤ k * d.sz := by rw [← Nat.succ_mul]; exact Nat.mul_le_mul_right _ hjk
        have h6 := hr.2 j p hj
        rw [List.drop_take, List.take_take, Nat.min_eq_left (by omega)]
        exact h6
      · cases hj
end Go.Proofs.YtB
