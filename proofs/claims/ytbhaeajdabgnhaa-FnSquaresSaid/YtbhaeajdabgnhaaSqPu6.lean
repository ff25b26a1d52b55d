/- Plain laws: sums of forms modulo p; the products without a factor 0; numbers of products. -/
import Derived.Test.YtbhaeajdabgnhaaSqPu3
import Derived.Test.YtbhaeajdabgnhaaSqG1
set_option linter.unusedVariables false
set_option linter.unusedSimpArgs false
namespace Go.Proofs.YtB
open Go Go.RowKit Go.Proofs
theorem mod_eq {p x : Int} (hp : 0 < p) (hp2 : p ≤ 1000) (h0 : -1000000000 ≤ x) (h1 : x ≤ 1000000000) : spec_l01Mod p x = some (x % p) := by
  unfold spec_l01Mod
  rw [if_pos (by omega)]
  congr 1
  have a1 := Int.tmod_lt_of_pos x hp
  have a2 : -p < x.tmod p := Int.lt_tmod_of_pos x hp
  rw [w64_id (by omega) (by omega), Int.tmod_eq_emod_of_nonneg (by omega)]
  rw [Int.add_emod_right]
  rw [Int.tmod_def, Int.sub_mul_emod_self_left]
end Go.Proofs.YtB
