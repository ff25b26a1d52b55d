/- Plain laws: sums of forms modulo p; the products without a factor 0; numbers of products. -/
import Derived.Test.YtbmjglgpckfpjaaEqPu3
import Derived.Test.YtbmjglgpckfpjaaEqB13
import Derived.Test.YtbmjglgpckfpjaaEqG1
set_option linter.unusedVariables false
set_option linter.unusedSimpArgs false
namespace Go.Proofs.YtB
open Go Go.RowKit Go.Proofs
/-- f and t times g together, modulo p, up to place j -/
def addTo (p : Int) (f g : Form) (t : Int) (j : Nat) : Form := Vector.ofFn fun i : Fin 9 => if i.1 < j then u8 (((f[i.1].toNat : Int) + t * (g[i.1].toNat : Int)) % p) else f[i.1]
def addF (p : Int) (f g : Form) (t : Int) : Form := addTo p f g t 9
theorem addTo_zero (p : Int) (f g : Form) (t : Int) : addTo p f g t 0 = f := by
  apply Vector.ext
  intro i hi
  simp [addTo]
theorem addTo_get (p : Int) (f g : Form) (t : Int) {j : Nat} (hj : j < 9) : (addTo p f g t j)[j] = f[j] := by simp [addTo]
theorem addTo_step (p : Int) (f g : Form) (t : Int) {j : Nat} (hj : j < 9) : vs (addTo p f g t j) (j : Int) (u8 (((f[j].toNat : Int) + t * (g[j].toNat : Int)) % p)) = addTo p f g t (j + 1) := by
  unfold vs addTo
  apply Vector.ext
  intro i hi
  simp only [Int.toNat_natCast, Vector.getElem_setIfInBounds hi, Vector.getElem_ofFn]
  by_cases h : j = i
  · subst h; simp
  · rw [if_neg h]
    by_cases h2 : i < j
    · rw [if_pos h2, if_pos (by omega)]
    · rw [if_neg h2, if_neg (by omega)]
theorem byte_le (x : UInt8) : 0 ≤ (x.toNat : Int) ∧ (x.toNat : Int) ≤ 255 := by
  have := x.toNat_lt
  omega
theorem mul_b {t : Int} {x : UInt8} (h0 : -1000000 ≤ t) (h1 : t ≤ 1000000) : -255000000 ≤ t * (x.toNat : Int) ∧ t * (x.toNat : Int) ≤ 255000000 := by
  have hb := byte_le x
  constructor
  · have : -1000000 * (x.toNat : Int) ≤ t * (x.toNat : Int) := Int.mul_le_mul_of_nonneg_right h0 hb.1
    omega
  · have : t * (x.toNat : Int) ≤ 1000000 * (x.toNat : Int) := Int.mul_le_mul_of_nonneg_right h1 hb.1
    omega
theorem mod_eq {p x : Int} (hp : 0 < p) (hp2 : p ≤ 1000) (h0 : -1000000000 ≤ x) (h1 : x ≤ 1000000000) : spec_l01Mod p x = some (x % p) := by
  unfold spec_l01Mod
  rw [if_pos (by omega)]
  congr 1
  have a1 := Int.tmod_lt_of_pos x hp
  have a2 : -p < x.tmod p := Int.lt_tmod_of_pos x hp
  rw [w64_id (by omega) (by omega), Int.tmod_eq_emod_of_nonneg (by omega)]
  rw [Int.add_emod_right]
  rw [Int.tmod_def, Int.sub_mul_emod_self_left]
theorem spec_add_eq {p t : Int} (f g : Form) (hp : 0 < p) (hp2 : p ≤ 1000) (h0 : -1000000 ≤ t) (h1 : t ≤ 1000000) : spec_l01Add p f g t = some (addF p f g t) := by
  unfold spec_l01Add
  have h := iter_up (body := fun s : Int × Form => spec_l01Add_l1 p g t s.1 s.2) (fun j => ((j : Int), addTo p f g t j)) 9 (s' := (9, addTo p f g t 9)) (fun j hj => by
    show spec_l01Add_l1 p g t (j : Int) (addTo p f g t j) = _
    unfold spec_l01Add_l1
    have hb := byte_le f[j]
    have hm := mul_b (x := g[j]) h0 h1
    rw [dtt (by omega : (j : Int) < 9), if_pos rfl, if_pos (by omega), vg_nat hj, vg_nat hj, addTo_get p f g t hj, w64_id (x := t * (g[j].toNat : Int)) (by omega) (by omega), w64_id (x := (f[j].toNat : Int) + t * (g[j].toNat : Int)) (by omega) (by omega), mod_eq hp hp2 (by omega) (by omega)]
    simp only [Option.bind_some]
    rw [w64s (by omega), addTo_step p f g t hj]) (by
    show spec_l01Add_l1 p g t 9 _ = _
    unfold spec_l01Add_l1
    rw [dff (by omega), if_neg (by decide)])
  rw [show ((0 : Nat) : Int) = 0 from rfl, addTo_zero] at h
  rw [h]
  rfl
theorem sum_eq {p t : Int} (f g : Form) (hp : 0 < p) (hp2 : p ≤ 1000) (h0 : 0 ≤ t) (h1 : t ≤ 1000000) : impl_sum p f g t = some (addF p f g t) := by
  unfold impl_sum
  have h := iter_up (body := fun s : Int × Form => impl_sum_l1 p g t s.1 s.2) (fun j => ((j : Int), addTo p f g t j)) 9 (s' := (9, addTo p f g t 9)) (fun j hj => by
    show impl_sum_l1 p g t (j : Int) (addTo p f g t j) = _
    unfold impl_sum_l1
    have hb := byte_le f[j]
    have hm := mul_b (x := g[j]) (t := t) (by omega) h1
    have hm0 : 0 ≤ t * (g[j].toNat : Int) := Int.mul_nonneg h0 (byte_le g[j]).1
    rw [dtt (by omega : (j : Int) < 9), if_pos rfl, if_pos (by omega), if_pos (by omega), vg_nat hj, vg_nat hj, addTo_get p f g t hj, w64_id (x := t * (g[j].toNat : Int)) (by omega) (by omega), w64_id (x := (f[j].toNat : Int) + t * (g[j].toNat : Int)) (by omega) (by omega), Int.tmod_eq_emod_of_nonneg (by omega), w64s (by omega), addTo_step p f g t hj]) (by
    show impl_sum_l1 p g t 9 _ = _
    unfold impl_sum_l1
    rw [dff (by omega), if_neg (by decide)])
  rw [show ((0 : Nat) : Int) = 0 from rfl, addTo_zero] at h
  rw [h]
  rfl
end Go.Proofs.YtB
