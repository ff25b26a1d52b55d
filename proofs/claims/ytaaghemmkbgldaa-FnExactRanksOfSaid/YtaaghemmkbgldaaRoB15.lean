/- Words of this seat's own: a slice of one's own, cut short, cleared from a place on. -/
import Derived.Test.YtaaghemmkbgldaaRoB14
import Derived.Test.YtaaghemmkbgldaaRoB13
set_option linter.unusedVariables false
set_option linter.unusedSimpArgs false
set_option linter.unusedSectionVars false
namespace Go.Proofs.YtB
open Go Go.RowKit
open Go.Proofs.YtaaghemmkbgldaaW.PrintWords
variable {P : Program} {n : Nat} {a : Act} {L : List (Nat × Value)} {w w' w0 ws : World} {Q : Exit → Act → World → Prop} {ops : Array Oper} {rest : List Oper} {o : Oper}
variable {x y : Operand} {p q : Int} {T T' ty : TypeId} {pos : String} {af : Array Edge} {gd : Option (Nat × Bool)} {dd : Option Tmp} {ad : Addr} {k : Nat} {cs : List Value} {m : Nat}
variable {ρ ρ' ρ0 : Nat → Nat} {i j g e B : Nat} {α β : Type} {d : Kd α} {xs ys : List α} {v u : Value}
def cutV (v : Value) (lo hi sz : Nat) : Value := match v with
  | .slice A _ c => .slice (if c = lo then A else A.map (·.add (lo * sz))) (hi - lo) (c - lo)
  | v => v
theorem r_cut_v {sz : Nat} {ol oh : Option Operand} {lo hi : Int} (hT : P.underlying T = some (.slice e)) (hs : (P.info? e).map (·.size) = some sz) (hd : d.sz = sz) (hv : Ro d w v xs) (hf : Fr n a L) (hx : ev L x = some v)
    (hl : (ol = none ∧ lo = 0) ∨ (∃ z, ol = some z ∧ ev L z = some (.int .i64 lo))) (hh : (oh = none ∧ hi = xs.length) ∨ (∃ z, oh = some z ∧ ev L z = some (.int .i64 hi))) (h0 : 0 ≤ lo) (h1 : lo ≤ hi) (h2 : hi ≤ xs.length) :
    (execOp a.eval ⟨dd, .slice T x ol oh none, ty, pos, af, gd⟩).run P w = .ok (.value (cutV v lo.toNat hi.toNat sz)) w := by
  obtain ⟨lo, rfl⟩ := Int.eq_ofNat_of_zero_le h0
  obtain ⟨hi, rfl⟩ := Int.eq_ofNat_of_zero_le (show 0 ≤ hi by omega)
  obtain ⟨A, c, rfl, hc, hC⟩ := hv
  have hl' : (ol.map a.eval = none ∧ lo = 0) ∨ ol.map a.eval = some (.int .i64 (lo : Int)) := by
    rcases hl with ⟨rfl, h⟩ | ⟨z, rfl, h⟩
    · exact .inl ⟨rfl, by omega⟩
    · exact .inr (by simp [hf.ev h])
  have hh' : (oh.map a.eval = none ∧ hi = xs.length) ∨ oh.map a.eval = some (.int .i64 (hi : Int)) := by
    rcases hh with ⟨rfl, h⟩ | ⟨z, rfl, h⟩
    · exact .inl ⟨rfl, by omega⟩
    · exact .inr (by simp [hf.ev h])
  have hr := cut_run (P := P) (A := A) (c := c) hT hs hl' hh' (by omega) (by omega) hc w
  simp only [execOp, hf.ev hx, Option.map_none, Sem.run_bind, hr, Result.andThen_ok, Sem.run_pure, Int.toNat_natCast]
  rfl
theorem ro_cutV {lo hi : Int} (hv : Ro d w v xs) (h0 : 0 ≤ lo) (h1 : lo ≤ hi) (h2 : hi ≤ xs.length) : Ro d w (cutV v lo.toNat hi.toNat d.sz) ((xs.take hi.toNat).drop lo.toNat) := by
  obtain ⟨A, c, rfl, hc, hC⟩ := hv
  exact ro_cut ⟨A, c, rfl, hc, hC⟩ (by omega) (by omega)
/-- the first k of one's own are one's own -/
theorem Ow.take {hi : Int} (h : Ow d e ρ w B i v xs) (h0 : 0 ≤ hi) (h1 : hi ≤ xs.length) (sz : Nat) : Ow d e ρ w B i (cutV v 0 hi.toNat sz) (xs.take hi.toNat) := by
  obtain ⟨k, rfl⟩ := Int.eq_ofNat_of_zero_le h0
  simp only [Int.toNat_natCast]
  have hk : k ≤ xs.length := by omega
  obtain ⟨hown, inner, ho, hr⟩ := h
  rcases ho.2 with ⟨rfl, h3⟩ | ⟨g, cap, cur, rfl, hb, hh, hnc, hcap, hcs, htk⟩
  · have : xs = [] := List.eq_nil_of_length_eq_zero h3
    subst this
    have hk0 : k = 0 := by simpa using hk
    subst hk0
    exact Ow.nil d e ρ w B i
  · have hv : cutV (.slice (some ⟨g, 0, none⟩) xs.length cap) 0 k sz = .slice (some ⟨g, 0, none⟩) k cap := by
      simp [cutV, Addr.add]
    rw [hv]
    have hl : (xs.take k).length = k := by simp; omega
    have hm : k * d.sz ≤ xs.length * d.sz := Nat.mul_le_mul_right _ hk
    refine ⟨fun b hb' => hown b (by simpa [Value.ownBlock] using hb'), inner.take (k * d.sz), ⟨by rw [List.length_take, hr.1, hl]; omega, .inr ⟨g, cap, cur, by rw [hl], hb, hh, by omega, hcap, hcs, ?_⟩⟩, ?_, fun j p hj => ?_⟩
    · rw [hl, ← htk, List.take_take, Nat.min_eq_left hm]
    · rw [List.length_take, hr.1, hl]; omega
    · rw [List.getElem?_take] at hj
      split at hj
      · rename_i hjk
        have h5 : j * d.sz + d.sz ≤ k * d.sz := by rw [← Nat.succ_mul]; exact Nat.mul_le_mul_right _ hjk
        have h6 := hr.2 j p hj
        rw [List.drop_take, List.take_take, Nat.min_eq_left (by omega)]
        exact h6
      · cases hj
theorem st_nod {Φ : World → Prop} (hf : Fr n a L) (hg : o.guard = none) (hd : o.dst = none) (hr : ∃ v w', (execOp a.eval o).run P w = .ok (.value v) w' ∧ Φ w')
    (h : ∀ a' w', Fr n a' L → Φ w' → wpList P ops Q rest a' w') : wpList P ops Q (o :: rest) a w := by
  obtain ⟨v, w', hr, hΦ⟩ := hr
  refine wpList_plain hg fun K hK => ?_
  unfold Oper.wp
  rw [hr]
  refine hK _ _ (h _ _ ?_ hΦ)
  rw [hd]
  exact hf
/-- clear(v[lo:]) -/
theorem r_clear {d : Fl α} {z0 : Value} {z : α} {bytes : Nat} {lo hi : Int} {xs : List α} (hw : Wd w0 ρ w) (hi0 : i ≠ 0) (ho : Ow (kf d) e ρ w w0.heap.size i v xs) (h0 : 0 ≤ lo) (h1 : lo ≤ xs.length) (hhi : hi = xs.length) (hT : P.underlying T = some (.slice e)) (he : El P e d.n bytes z0) (hz : z0.cells.toList = d.enc z) (hf : Fr n a L) (hx : ev L x = some (cutV v lo.toNat hi.toNat d.n)) :
    ∃ v' w', (execOp a.eval ⟨dd, .call ⟨.builtin .clear, #[x], #[T]⟩, ty, pos, af, gd⟩).run P w = .ok (.value v') w' ∧ Wd w0 ρ w' ∧ Adv i ρ w ρ w' ∧ Ow (kf d) e ρ w' w0.heap.size i v (xs.take lo.toNat ++ List.replicate (xs.length - lo.toNat) z) := by
  subst hhi
  obtain ⟨lo, rfl⟩ := Int.eq_ofNat_of_zero_le h0
  simp only [Int.toNat_natCast] at hx ⊢
  have hlo : lo ≤ xs.length := by omega
  have ho' := ho
  obtain ⟨hown, inner, hor, hr⟩ := ho
  obtain ⟨⟨i0, hi, hz0, hz1, hz2⟩, hzs, hs0, hb0⟩ := he
  rcases hor.2 with ⟨rfl, h3⟩ | ⟨g, cap, cur, rfl, hb, hh, hnc, hcap, hcs, htk⟩
  · have : xs = [] := List.eq_nil_of_length_eq_zero h3
    subst this
    have : lo = 0 := by simpa using hlo
    subst this
    refine ⟨.tuple #[], w, ?_, hw, ⟨Nat.le_refl _, fun _ _ => rfl, fun _ _ _ => rfl⟩, by simpa using ho'⟩
    simp [execOp, resolve, invoke, builtin, hf.ev hx, cutV, Builtin.clear_, run_underlying hT]
  · rcases Nat.eq_or_lt_of_le hlo with heq | hlt
    · refine ⟨.tuple #[], w, ?_, hw, ⟨Nat.le_refl _, fun _ _ => rfl, fun _ _ _ => rfl⟩, ?_⟩
      · simp [execOp, resolve, invoke, builtin, hf.ev hx, cutV, Builtin.clear_, run_underlying hT, heq]
        split <;> simp_all
      · rw [heq, List.take_length, Nat.sub_self, List.replicate_zero, List.append_nil]
        exact ho'
    · have hcl : ¬ cap = lo := by omega
      let mm := xs.length - lo
      let Z := (Builtin.zeroCells z0.cells mm).toList
      have hflat : inner = xs.flatMap d.enc := chunks d xs inner hr.1 (fun j hj => hr.2 j _ (List.getElem?_eq_getElem hj))
      have hmade := Kd.reps_made (R := fun (x : α) cs => cs = d.enc x) hzs hs0 hz mm
      have hZm : (madeCells z0.cells (mm * d.n)).toList = Z := by
        show _ = (Builtin.zeroCells z0.cells mm).toList
        unfold madeCells Builtin.zeroCells
        rw [hzs]
      rw [hZm] at hmade
      have hZl : Z.length = mm * d.n := by have := hmade.1; simpa using this
      have hZ : Z = (List.replicate mm z).flatMap d.enc := chunks d _ Z hmade.1 (fun j hj => hmade.2 j _ (List.getElem?_eq_getElem hj))
      have hmul : lo * d.n + mm * d.n = xs.length * d.n := by rw [← Nat.add_mul]; congr 1; omega
      have hcapn : xs.length * d.n ≤ cap * d.n := Nat.mul_le_mul_right _ hnc
      have hcs' : cur.size = cap * d.n := hcs
      have hst := run_storeCells_at P g (lo * d.n) e Z 0 cur w hh (by rw [hZl, hcs']; omega) (fun u hu => by
        rw [hZ] at hu
        exact flatMap_one d _ u hu)
      simp only [Nat.add_zero] at hst
      have hrow : ρ g = i := hown g (by simp [Value.ownBlock])
      have hfar : ∀ b, b ≠ g → (w.setRow g (cur.toList.take (lo * d.n) ++ Z ++ cur.toList.drop (lo * d.n + Z.length)).toArray).heap[b]? = w.heap[b]? := fun b hb => setRow_other w g b _ hb
      have htake : (xs.flatMap d.enc).take (lo * d.n) = (xs.take lo).flatMap d.enc := by
        have h7 : ((xs.take lo).flatMap d.enc).length = lo * d.n := by rw [flatMap_len, List.length_take, Nat.min_eq_left hlo]
        conv => lhs; rw [← List.take_append_drop lo xs, List.flatMap_append, List.take_left' h7]
      refine ⟨.tuple #[], w.setRow g (cur.toList.take (lo * d.n) ++ Z ++ cur.toList.drop (lo * d.n + Z.length)).toArray, ?_, ⟨hw.below.trans ⟨rfl, rfl, rfl, by simp, fun b hb => hfar b ?_⟩, hw.own⟩, ⟨by simp, fun _ _ => rfl, fun b hb hne => hfar b ?_⟩, ?_⟩
      · have hn0 : ∃ q, xs.length - lo = q + 1 := ⟨xs.length - lo - 1, by omega⟩
        obtain ⟨q, hq⟩ := hn0
        simp only [execOp, resolve, invoke, builtin, List.map_toArray, List.map_cons, List.map_nil, hf.ev hx, cutV, if_neg hcl, Option.map_some, hq, add_plain]
        simp only [Sem.run_bind, Sem.run_pure, Result.andThen_ok, Builtin.clear_, List.getElem?_toArray, List.getElem?_cons_zero, run_underlying hT, zeroValue, typeInfo, hi, hz0]
        have hZq : (Builtin.zeroCells z0.cells (q + 1)).toList = Z := by show _ = (Builtin.zeroCells z0.cells mm).toList; rw [show mm = q + 1 from hq]
        simp [hi, hz0, hZq, hst]
      · rintro rfl
        have := hw.own b (by rw [hrow]; exact hi0)
        omega
      · rintro rfl
        exact hne hrow
      · have hlen : (xs.take lo ++ List.replicate (xs.length - lo) z).length = xs.length := by simp; omega
        refine ⟨fun b hb' => hown b hb', (xs.take lo ++ List.replicate (xs.length - lo) z).flatMap d.enc, ⟨flatMap_len d _, .inr ⟨g, cap, _, by rw [hlen], hb, setRow_heap w g cur _ e _ hh, by rw [hlen]; exact hnc, hcap, ?_, ?_⟩⟩, reps_flat d _ (fun _ => rfl)⟩
        · simp only [List.size_toArray, List.length_append, List.length_take, List.length_drop, Array.length_toList]
          show _ = cap * d.n
          rw [hcs', hZl]
          omega
        · rw [hlen]
          show List.take (xs.length * d.n) (cur.toList.take (lo * d.n) ++ Z ++ cur.toList.drop (lo * d.n + Z.length)) = _
          have h8 : (cur.toList.take (lo * d.n) ++ Z).length = xs.length * d.n := by
            simp only [List.length_append, List.length_take, Array.length_toList]
            rw [hcs', hZl]
            omega
          have h9 : cur.toList.take (lo * d.n) = (xs.take lo).flatMap d.enc := by
            rw [← htake, ← hflat, ← htk, List.take_take]
            rw [Nat.min_eq_left (show lo * d.n ≤ xs.length * (kf d).sz from by show lo * d.n ≤ xs.length * d.n; omega)]
          rw [List.take_left' h8, h9, List.flatMap_append, hZ]
end Go.Proofs.YtB
