/- Plain laws: what a form, a product, a scheme is, as a truth value. -/
import Derived.Test.YtbhaeajdabgnhaaSqPu10
set_option linter.unusedVariables false
set_option linter.unusedSimpArgs false
namespace Go.Proofs.YtB
open Go Go.RowKit Go.Proofs
theorem iter_all {σ ρ : Type} {body : σ → Option (LR σ ρ)} (f : Nat → σ) (n : Nat) (ok : Nat → Bool) (r : ρ) {s' : σ} (h : ∀ j, j < n → body (f j) = if ok j then some (.next (f (j + 1))) else some (.ret r)) (hs : body (f n) = some (.stop s')) :
    iter body (f 0) = if (List.range n).all ok then some (.stop s') else some (.ret r) := by
  have := iter_find (body := body) f n (fun j => !ok j) r (fun j hj hb => by rw [h j hj]; simp at hb; rw [hb]; rfl) (fun j hj hb => by rw [h j hj]; simp at hb; rw [hb]; rfl) hs
  simpa using this
def okF (p len : Int) (f : Form) (j : Nat) : Bool := if h : j < 9 then decide (((f[j].toNat : Nat) : Int) < p) && (decide (((f[j].toNat : Nat) : Int) = 0) || decide ((j : Int) < len)) else true
def goodF (p len : Int) (f : Form) : Bool := (List.range 9).all (okF p len f)
theorem goodF_lt {p len : Int} {f : Form} (h : goodF p len f = true) (j : Nat) (hj : j < 9) : ((f[j].toNat : Nat) : Int) < p := by
  have := List.all_eq_true.1 h j (List.mem_range.2 hj)
  unfold okF at this
  simp only [dif_pos hj, Bool.and_eq_true, decide_eq_true_eq] at this
  exact this.1
def goodP (a : Sch) (q : Prod) : Bool := goodF a.p (w64 (a.n * a.m)) q.1 && goodF a.p (w64 (a.m * a.k)) q.2.1 && goodF a.p (w64 (a.n * a.k)) q.2.2 && nz q
structure IsSch (a : Sch) : Prop where
  p : a.p = 2 ∨ a.p = 3 ∨ a.p = 5
  n : 1 ≤ a.n ∧ a.n ≤ 3
  m : 1 ≤ a.m ∧ a.m ≤ 3
  k : 1 ≤ a.k ∧ a.k ≤ 3
  l : a.ps.length ≤ 30
  q : ∀ q ∈ a.ps, goodP a q = true
theorem IsSch.nz {a : Sch} (h : IsSch a) {q : Prod} (hq : q ∈ a.ps) : YtB.nz q = true := by
  have := h.q q hq
  unfold goodP at this
  simp only [Bool.and_eq_true] at this
  exact this.2
theorem IsSch.lt {a : Sch} (h : IsSch a) {q : Prod} (hq : q ∈ a.ps) : (∀ j, (hj : j < 9) → ((q.1[j].toNat : Nat) : Int) < a.p) ∧ (∀ j, (hj : j < 9) → ((q.2.1[j].toNat : Nat) : Int) < a.p) ∧ (∀ j, (hj : j < 9) → ((q.2.2[j].toNat : Nat) : Int) < a.p) := by
  have := h.q q hq
  unfold goodP at this
  simp only [Bool.and_eq_true] at this
  exact ⟨fun j hj => goodF_lt this.1.1.1 j hj, fun j hj => goodF_lt this.1.1.2 j hj, fun j hj => goodF_lt this.1.2 j hj⟩
end Go.Proofs.YtB
