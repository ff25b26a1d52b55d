/- Words of this seat's own: cuts of arrays; the library's sort of an own slice, by its contract on the shelf. -/
import Derived.Test.YtbhaeajdabgnhaaPoB20
import Derived.Shelf.SlSortCmp.NoneTotal
set_option linter.unusedVariables false
set_option linter.unusedSimpArgs false
set_option linter.unusedSectionVars false
namespace Go.Proofs.YtB
open Go Go.RowKit Go.Sort Go.Shelf
open Go.Proofs.YtbhaeajdabgnhaaW.PrintWords
variable {P : Program} {n : Nat} {a : Act} {L : List (Nat × Value)} {w w' w0 ws : World}
variable {x y : Operand} {p q : Int} {T T' ty : TypeId} {pos : String} {af : Array Edge} {gd : Option (Nat × Bool)} {dd : Option Tmp} {ad : Addr} {k : Nat} {m : Nat}
variable {ρ ρ' ρ0 : Nat → Nat} {i j g e B : Nat} {α β : Type} {v u : Value}
theorem r_cut_arr {A : Addr} {mm sz : Nat} (hT : P.underlying T = some (.array mm e)) (hs : (P.info? e).map (·.size) = some sz) (hm : 0 < mm) (hf : Fr n a L) (hx : ev L x = some (.pointer (some A))) :
    (execOp a.eval ⟨dd, .slice T x none none none, ty, pos, af, gd⟩).run P w = .ok (.value (.slice (some A) mm mm)) w := by
  obtain ⟨i0, h4, h5⟩ := Option.map_eq_some_iff.1 hs
  have ha : A.add 0 = A := by simp [Addr.add]
  simp [execOp, hf.ev hx, Instr.sliceAt, Instr.sliceBounds, run_underlying hT, Instr.sureAddr, sizeOf, typeInfo, h4, h5, ha, show mm ≠ 0 by omega]
theorem cl_ro {d : Fl β} {mm : Nat} {xs : Vector β mm} (h : Cl w ad k ((fVec mm d).enc xs)) (h1 : mm ≤ 9223372036854775807) : Ro (kf d) w (.slice (some (ad.add k)) mm mm) xs.toList := by
  refine ⟨some (ad.add k), mm, by rw [Vector.length_toList], by rw [Vector.length_toList]; exact Nat.le_refl _, ?_⟩
  rw [Vector.length_toList]
  refine ⟨by rw [Vector.length_toList], h1, fun _ => ⟨ad.add k, rfl, fun jj pp hj => ⟨d.enc pp, d.len pp, rfl, fun ii uu hu => ?_⟩⟩⟩
  have hjl : jj < xs.toList.length := by
    rcases Nat.lt_or_ge jj xs.toList.length with h0 | h0
    · exact h0
    · rw [List.getElem?_eq_none h0] at hj; cases hj
  have hg := flatMap_get d xs.toList jj pp hjl
  rw [List.getD_eq_getElem?_getD, hj, Option.getD_some] at hg
  have hil : ii < d.n := by
    rcases Nat.lt_or_ge ii (d.enc pp).length with h0 | h0
    · rwa [d.len] at h0
    · rw [List.getElem?_eq_none h0] at hu; cases hu
  have h3 : (xs.toList.flatMap d.enc)[jj * d.n + ii]? = some uu := by
    rw [← hu, ← hg, List.getElem?_take, if_pos hil, List.getElem?_drop]
  have := h (jj * d.n + ii) uu h3
  rw [← this, add_add]
  rfl

def cfOf (cmp : α → α → Option Int) (x y : α) : Int := (cmp x y).getD 0
/-- cmp answers whatever two, and orders them, no two alike -/
structure Cmp (cmp : α → α → Option Int) : Prop where
  all : ∀ x y, ∃ r, cmp x y = some r
  swo : SWO (ltOf (cfOf cmp))
  tot : ∀ x y, ltOf (cfOf cmp) x y = false → ltOf (cfOf cmp) y x = false → x = y
open Classical in
noncomputable def sortBy (cmp : α → α → Option Int) (xs : List α) : Option (List α) := if Cmp cmp ∧ xs.length < 4611686018427387904 then some (xs.mergeSort fun x y => !(ltOf (cfOf cmp) y x)) else none
theorem below_grow {w w' : World} (h : Below w.heap.size w w') : ∃ q os, w' = grow (w.drewN q) os := by
  refine ⟨w'.drawn - w.drawn, w'.heap.extract w.heap.size w'.heap.size, ?_⟩
  have h1 : w'.heap = w.heap ++ w'.heap.extract w.heap.size w'.heap.size := by
    apply Array.ext_getElem?
    intro k
    rcases Nat.lt_or_ge k w.heap.size with hk | hk
    · rw [h.block k hk, Array.getElem?_append_left hk]
    · rw [Array.getElem?_append_right hk, Array.getElem?_extract]
      split
      · congr 1; omega
      · rename_i h2
        exact Array.getElem?_eq_none (by have := h.size; omega)
  have h2 : w.drawn + (w'.drawn - w.drawn) = w'.drawn := by have := h.drawn; omega
  have h3 : w.drewN (w'.drawn - w.drawn) = { w with drawn := w'.drawn } := by
    show ({ w with drawn := w.drawn + (w'.drawn - w.drawn) } : World) = _
    rw [h2]
  rw [h3]
  unfold grow
  show w' = { heap := w.heap ++ w'.heap.extract w.heap.size w'.heap.size, tape := w.tape, drawn := w'.drawn, os := w.os, output := w.output }
  rw [← h1, ← h.tape, ← h.os, ← h.output]
theorem flat_toList [Inhabited α] (d : Fl α) (xs : List α) : (flatK d.enc d.n xs.toArray).toList = xs.flatMap d.enc := by
  apply List.ext_getElem?
  intro t
  rcases Nat.lt_or_ge t (xs.length * d.n) with ht | ht
  · have hn : 0 < d.n := by
      rcases Nat.eq_zero_or_pos d.n with h | h
      · rw [h, Nat.mul_zero] at ht; omega
      · exact h
    have hq : t / d.n < xs.length := (Nat.div_lt_iff_lt_mul hn).2 ht
    have hr := Nat.mod_lt t hn
    have e1 : (flatK d.enc d.n xs.toArray).toList[t]? = some (d.enc xs[t / d.n])[t % d.n]! := by
      have hs : t < (flatK d.enc d.n xs.toArray).size := by simpa using ht
      have := get_flatK d.enc d.n xs.toArray t (by simpa using ht)
      rw [getElem!_pos _ t hs] at this
      rw [Array.getElem?_toList, Array.getElem?_eq_getElem hs, this]
      congr 2
      rw [getElem!_pos xs.toArray _ (by simpa using hq)]
      simp
    have hg := flatMap_get d xs (t / d.n) xs[t / d.n] hq
    rw [List.getD_eq_getElem?_getD, List.getElem?_eq_getElem hq, Option.getD_some] at hg
    have e2 : (xs.flatMap d.enc)[t]? = (d.enc xs[t / d.n])[t % d.n]? := by
      rw [← hg, List.getElem?_take, if_pos hr, List.getElem?_drop, Nat.mul_comm, Nat.div_add_mod]
    rw [e1, e2, List.getElem?_eq_getElem (by rw [d.len]; exact hr), getElem!_pos _ _ (by rw [d.len]; exact hr)]
  · rw [List.getElem?_eq_none (by simpa using ht), List.getElem?_eq_none (by rw [flatMap_len]; exact ht)]
theorem reps_eq {d : Fl α} : ∀ {xs : List α} {inner : List Value}, Reps (fun x cs => cs = d.enc x) d.n xs inner → inner = xs.flatMap d.enc := by
  intro xs inner h
  apply List.ext_getElem?
  intro t
  rcases Nat.lt_or_ge t (xs.length * d.n) with ht | ht
  · have hn : 0 < d.n := by
      rcases Nat.eq_zero_or_pos d.n with h | h
      · rw [h, Nat.mul_zero] at ht; omega
      · exact h
    have hq : t / d.n < xs.length := (Nat.div_lt_iff_lt_mul hn).2 ht
    have hr := Nat.mod_lt t hn
    have h1 := h.2 (t / d.n) _ (List.getElem?_eq_getElem hq)
    have hg := flatMap_get d xs (t / d.n) xs[t / d.n] hq
    rw [List.getD_eq_getElem?_getD, List.getElem?_eq_getElem hq, Option.getD_some] at hg
    have e1 : ((inner.drop (t / d.n * d.n)).take d.n)[t % d.n]? = inner[t]? := by
      rw [List.getElem?_take, if_pos hr, List.getElem?_drop, Nat.mul_comm, Nat.div_add_mod]
    have e2 : (((xs.flatMap d.enc).drop (t / d.n * d.n)).take d.n)[t % d.n]? = (xs.flatMap d.enc)[t]? := by
      rw [List.getElem?_take, if_pos hr, List.getElem?_drop, Nat.mul_comm, Nat.div_add_mod]
    rw [← e1, ← e2, h1, hg]
  · rw [List.getElem?_eq_none (by rw [h.1]; exact ht), List.getElem?_eq_none (by rw [flatMap_len]; exact ht)]
theorem sort_ok {ρs : Ren} [Inhabited α] {d : Fl α} {cmp : α → α → Option Int} {f81 gc : Nat} {e : Nat} {xs r : List α} (La : SlLaysF0.n6 P ρs) (h81 : ρs.f 6 = f81) (aE : ∀ w, (isAgg (ρs.t 24)).run P w = .ok true w) (zE : ∀ w, (Go.sizeOf (ρs.t 24)).run P w = .ok d.n w)
    (eg : ∀ args w, (callFunc gc args).run P w = .ok (.enter gc args) w) (hc : ∀ x y r W, cmp x y = some r → Calls P gc #[.agg (d.enc x).toArray, .agg (d.enc y).toArray] W fun e w => ∃ v, e = .returned v ∧ Below W.heap.size W w ∧ v = .int .i64 r)
    (hi : i ≠ 0) (hW : Wd w0 ρ0 ws) (ho : Ow (kf d) e ρ0 ws w0.heap.size i v xs) (hF : sortBy cmp xs = some r) (hn : 0 < d.n) :
    Calls P f81 #[v, .func (.func gc) #[] #[]] ws fun e1 w => ∃ u, e1 = .returned u ∧ ∃ ρ', Wd w0 ρ' w ∧ Adv i ρ0 ws ρ' w ∧ .tuple #[] = u ∧ Ow (kf d) e ρ' w w0.heap.size i v r := by
  subst h81
  unfold sortBy at hF
  split at hF
  case isFalse => cases hF
  rename_i hC0
  obtain ⟨hC, hsz0⟩ := hC0
  injection hF with hF
  obtain ⟨hok, inner, hown, hrep⟩ := ho
  have hin := reps_eq hrep
  rcases hown.2 with ⟨rfl, h0⟩ | ⟨g, cap, cur, rfl, hbase, hb, h1, h2, h3, h4⟩
  · have hx : xs = [] := List.eq_nil_of_length_eq_zero h0
    subst hx
    rw [List.mergeSort_nil] at hF
    subst hF
    refine (AnyF.slices_SortFunc_none La none 0 (.func (.func gc) #[] #[]) ws).mono ?_
    rintro e1 w1 ⟨rfl, rfl⟩
    exact ⟨_, rfl, ρ0, hW, ⟨Nat.le_refl _, fun _ _ => rfl, fun _ _ _ => rfl⟩, rfl, ⟨hok, inner, hown, hrep⟩⟩
  · replace h3 : cur.size = cap * d.n := h3
    replace h4 : cur.toList.take (xs.length * d.n) = inner := h4
    have hblk : g < ws.heap.size := (Array.getElem?_eq_some_iff.1 hb).1
    have hsz : xs.toArray.size < 4611686018427387904 := by simpa using hsz0
    have hH : HoldsK d.enc d.n ws g 0 xs.toArray := by
      intro t ht
      have ht' : t < xs.length * d.n := by simpa using ht
      refine ⟨?_, by simp [World.frozen?, hb]⟩
      have hs : t < (flatK d.enc d.n xs.toArray).size := ht
      have e1 : cur[t]? = some (flatK d.enc d.n xs.toArray)[t]! := by
        have e2 : (cur.toList.take (xs.length * d.n))[t]? = (xs.flatMap d.enc)[t]? := by rw [h4, hin]
        rw [List.getElem?_take, if_pos ht', ← flat_toList, Array.getElem?_toList, Array.getElem?_toList, Array.getElem?_eq_getElem hs] at e2
        rw [e2, getElem!_pos _ t hs]
      simp only [World.cell?, hb, Nat.zero_add, Option.isSome_none, Bool.false_eq_true, if_false, id]
      exact e1
    have hcl : CmpLays P gc #[] d.enc d.n (cfOf cmp) g 0 xs.toArray.size ws := by
      intro mm os dk hdk x y
      obtain ⟨r0, hr0⟩ := hC.all x y
      refine (hc x y r0 (sortWorldK d.enc d.n ws g 0 mm dk os) hr0).mono ?_
      rintro e1 w1 ⟨v1, rfl, hbl, rfl⟩
      obtain ⟨q1, os1, h5⟩ := below_grow hbl
      exact ⟨by simp [cfOf, hr0], q1, os1, h5⟩
    have hs := AnyQ.slices_SortFunc_total La d.n aE zE d.enc d.len d.one (cfOf cmp) hC.swo gc #[] g 0 cap xs.toArray ws eg hcl hH hblk hsz hC.tot
    simp only [List.size_toArray] at hs
    rw [hF] at hs
    have hrl : r.length = xs.length := by rw [← hF, List.length_mergeSort]
    refine hs.mono ?_
    rintro e1 w1 ⟨rfl, nn, os, rfl⟩
    have hheap : ∀ k, k < ws.heap.size → k ≠ g → (sortWorldK d.enc d.n ws g 0 nn r.toArray os).heap[k]? = ws.heap[k]? := by
      intro k hk hne
      unfold sortWorldK putRowK
      rw [heap_grow_old _ _ (by simpa using hk)]
      simp [putRow, mapBlock, Sort.ahead, Array.getElem?_modify, Ne.symm hne]
    have hsize : ws.heap.size ≤ (sortWorldK d.enc d.n ws g 0 nn r.toArray os).heap.size := by
      unfold sortWorldK putRowK
      simp
    have hrow : (sortWorldK d.enc d.n ws g 0 nn r.toArray os).heap[g]? = some (.cells (putCells id 0 (flatK d.enc d.n r.toArray) cur) e (0, 0)) := by
      unfold sortWorldK putRowK
      rw [heap_grow_old _ _ (by simpa using hblk)]
      simp [putRow, mapBlock, Sort.ahead, Array.getElem?_modify, hb, onCells]
    have hgi : ρ0 g = i := hok g (by simp [Value.ownBlock])
    have hgB : w0.heap.size ≤ g := hW.own g (by rw [hgi]; exact hi)
    refine ⟨_, rfl, ownr ρ0 ws i, ⟨hW.below.trans ⟨rfl, rfl, rfl, hsize, fun k hk => hheap k (Nat.lt_of_lt_of_le hk hW.below.size) (by omega), by show ws.drawn ≤ ws.drawn + nn; omega⟩, fun k hk => ?_⟩, ⟨hsize, fun k hk => own_old hk, fun k hk hne => hheap k hk (fun h => hne (by rw [h]; exact hgi))⟩, rfl, fun k hk => ?_, r.flatMap d.enc, ⟨by rw [flatMap_len]; rfl, .inr ⟨g, cap, putCells id 0 (flatK d.enc d.n r.toArray) cur, by rw [hrl], hbase, hrow, by rw [hrl]; exact h1, h2, by simp [putCells, h3, kf], ?_⟩⟩, reps_flat d r fun _ => rfl⟩
    · rcases Nat.lt_or_ge k ws.heap.size with h | h
      · rw [own_old h] at hk; exact hW.own k hk
      · exact Nat.le_trans hW.below.size h
    · simp [Value.ownBlock] at hk
      subst hk
      rw [own_old hblk]; exact hgi
    · have hcap : r.length * d.n ≤ cur.size := by
        rw [h3, hrl]; exact Nat.mul_le_mul_right _ h1
      show (putCells id 0 (flatK d.enc d.n r.toArray) cur).toList.take (r.length * d.n) = _
      rw [← flat_toList]
      apply List.ext_getElem?
      intro t
      rcases Nat.lt_or_ge t (r.length * d.n) with ht | ht
      · rw [List.getElem?_take, if_pos ht, Array.getElem?_toList, Array.getElem?_toList]
        have hs1 : t < (flatK d.enc d.n r.toArray).size := by simpa using ht
        rw [Array.getElem?_eq_getElem hs1]
        simp only [putCells, Array.getElem?_mapIdx, Array.getElem?_eq_getElem (show t < cur.size by omega), Option.map_some, Nat.zero_le, true_and, Nat.zero_add, if_pos hs1, Nat.sub_zero, id]
        rw [getElem!_pos _ t hs1]
      · rw [List.getElem?_take_eq_none (by omega), List.getElem?_eq_none (by simpa using ht)]
end Go.Proofs.YtB
