/- Words of this seat's own: the library's sort of a grid's rows; slices that share a grid's rows. -/
import Derived.Test.YtbhaeajdabgnhaaPoB22
import Derived.Shelf.SlSortCmp.Whole1
set_option linter.unusedVariables false
set_option linter.unusedSimpArgs false
set_option linter.unusedSectionVars false
namespace Go.Proofs.YtB
open Go Go.RowKit Go.Sort Go.Shelf
open Go.Proofs.YtbhaeajdabgnhaaW.PrintWords
variable {P : Program} {n : Nat} {a : Act} {L : List (Nat × Value)} {w w' w0 ws : World} {Q : Exit → Act → World → Prop} {ops : Array Oper} {rest : List Oper} {o : Oper}
variable {x y : Operand} {p q : Int} {T T' ty : TypeId} {pos : String} {af : Array Edge} {gd : Option (Nat × Bool)} {dd : Option Tmp} {ad : Addr} {k : Nat} {m : Nat}
variable {ρ ρ' ρ0 : Nat → Nat} {i j g e e' B : Nat} {α β : Type} {v u : Value}
variable {d : Fl α} {f f' : Nat → V1} {idx : List Nat} {rows r : List (List α)}
structure CmpR (cmp : List α → List α → Option Int) (rows : List (List α)) : Prop where
  all : ∀ x ∈ rows, ∀ y ∈ rows, ∃ r, cmp x y = some r
  irr : ∀ x ∈ rows, ltOf (cfOf cmp) x x = false
  tr : ∀ x ∈ rows, ∀ y ∈ rows, ∀ z ∈ rows, ltOf (cfOf cmp) x y = true → ltOf (cfOf cmp) y z = true → ltOf (cfOf cmp) x z = true
  ntr : ∀ x ∈ rows, ∀ y ∈ rows, ∀ z ∈ rows, ltOf (cfOf cmp) x y = false → ltOf (cfOf cmp) y z = false → ltOf (cfOf cmp) x z = false
  tot : ∀ x ∈ rows, ∀ y ∈ rows, ltOf (cfOf cmp) x y = false → ltOf (cfOf cmp) y x = false → x = y
/-- r is rows, sorted -/
def SortedR (cmp : List α → List α → Option Int) (rows r : List (List α)) : Prop := CmpR cmp rows ∧ rows.length < 4611686018427387904 ∧ r.Perm rows ∧ r.Pairwise fun x y => ltOf (cfOf cmp) y x = false
theorem SortedR.uniq {cmp : List α → List α → Option Int} {r1 r2 : List (List α)} (h1 : SortedR cmp rows r1) (h2 : SortedR cmp rows r2) : r1 = r2 :=
  List.Perm.eq_of_pairwise (le := fun x y => ltOf (cfOf cmp) y x = false) (fun x y hx hy a b => h1.1.tot x (h1.2.2.1.mem_iff.1 hx) y (h2.2.2.1.mem_iff.1 hy) b a) h1.2.2.2 h2.2.2.2 (h1.2.2.1.trans h2.2.2.1.symm)
open Classical in
noncomputable def sortRows (cmp : List α → List α → Option Int) (rows : List (List α)) : Option (List (List α)) := if h : ∃ r, SortedR cmp rows r then some (Classical.choose h) else none
theorem of_sortRows {cmp : List α → List α → Option Int} (h : sortRows cmp rows = some r) : SortedR cmp rows r := by
  unfold sortRows at h
  split at h
  · rename_i hx
    injection h with h
    subst h
    exact Classical.choose_spec hx
  · cases h
theorem sortRows_eq {cmp : List α → List α → Option Int} (h : SortedR cmp rows r) : sortRows cmp rows = some r := by
  have hx : ∃ r, SortedR cmp rows r := ⟨r, h⟩
  unfold sortRows
  rw [dif_pos hx, (Classical.choose_spec hx).uniq h]
theorem gi_range (rows : List (List α)) : gi (List.range rows.length) rows = rows := by
  apply List.ext_getElem?
  intro j
  unfold gi
  rw [List.getElem?_map]
  rcases Nat.lt_or_ge j rows.length with h | h
  · rw [List.getElem?_range h, Option.map_some, List.getElem?_eq_getElem h, List.getD_eq_getElem?_getD, List.getElem?_eq_getElem h]; rfl
  · rw [List.getElem?_eq_none (by simpa using h), List.getElem?_eq_none h]; rfl
theorem fref_flat (l : List Nat) : l.flatMap (fRef f).enc = l.map fun r => (f r).1 := by
  induction l with
  | nil => rfl
  | cons x l ih => rw [List.flatMap_cons, List.map_cons, ih]; rfl
theorem gsort_ok {ρs : Ren} {cmp : List α → List α → Option Int} {f81 gc : Nat} (La : SlLaysF.n6 P ρs) (h81 : ρs.f 6 = f81)
    (eg : ∀ args w, (callFunc gc args).run P w = .ok (.enter gc args) w) (hc : ∀ {x y : List α} {r : Int} {W : World} {vx vy : Value}, cmp x y = some r → Ro (kf d) W vx x → Ro (kf d) W vy y → Calls P gc #[vx, vy] W fun e w => ∃ v, e = .returned v ∧ Below W.heap.size W w ∧ v = .int .i64 r)
    (hW : Wd w0 ρ0 ws) (ho : Gd d e' e ρ0 ws w0.heap.size i v f (List.range rows.length) rows) (hF : sortRows cmp rows = some r) :
    Calls P f81 #[v, .func (.func gc) #[] #[]] ws fun e1 w => ∃ u, e1 = .returned u ∧ ∃ ρ', Wd w0 ρ' w ∧ (∀ b, b ≠ i → (∀ r, b ≠ lab i r) → Tr b ρ0 ws ρ' w) ∧ .tuple #[] = u ∧ ∃ f', Gd d e' e ρ' w w0.heap.size i v f' (List.range r.length) r := by
  subst h81
  have hS := of_sortRows hF
  have hi := ho.small
  obtain ⟨hok, inner, hown, hrep⟩ := ho.out
  have hin := reps_eq hrep
  have hnil : rows.length = 0 → Calls P (ρs.f 6) #[v, .func (.func gc) #[] #[]] ws (fun e w' => e = .returned (.tuple #[]) ∧ w' = ws) → Calls P (ρs.f 6) #[v, .func (.func gc) #[] #[]] ws fun e1 w => ∃ u, e1 = .returned u ∧ ∃ ρ', Wd w0 ρ' w ∧ (∀ b, b ≠ i → (∀ r, b ≠ lab i r) → Tr b ρ0 ws ρ' w) ∧ .tuple #[] = u ∧ ∃ f', Gd d e' e ρ' w w0.heap.size i v f' (List.range r.length) r := by
    intro h0 h
    have hx : rows = [] := List.eq_nil_of_length_eq_zero h0
    have hr : r = [] := by have := hS.2.2.1.length_eq; rw [h0] at this; exact List.eq_nil_of_length_eq_zero this
    subst hx hr
    refine h.mono ?_
    rintro e1 w1 ⟨rfl, rfl⟩
    exact ⟨_, rfl, ρ0, hW, fun b _ _ k hk hb => ⟨hb, rfl⟩, rfl, f, ho⟩
  rcases hown.2 with ⟨rfl, h0⟩ | ⟨g, cap, cur, rfl, hbase, hb, h1, h2, h3, h4⟩
  · rw [List.length_range] at h0
    exact hnil h0 (AnyF.slices_SortFunc_none (P := P) (ρ := ρs) { La with } none 0 (.func (.func gc) #[] #[]) ws)
  · rw [List.length_range] at h1 h4 hnil ⊢
    rcases Nat.eq_zero_or_pos rows.length with hz | hpos
    · have h := AnyF.slices_SortFunc_none (P := P) (ρ := ρs) { La with } (some ⟨g, 0, none⟩) cap (.func (.func gc) #[] #[]) ws
      refine hnil hz ?_
      rw [hz]
      exact h
    haveI : Inhabited (Fin rows.length) := ⟨⟨0, hpos⟩⟩
    let enc : Fin rows.length → Value := fun x => (f x.1).1
    let d0 : Array (Fin rows.length) := (List.finRange rows.length).toArray
    have hd0 : d0.size = rows.length := by simp [d0]
    have hblk : g < ws.heap.size := (Array.getElem?_eq_some_iff.1 hb).1
    replace h3 : cur.size = cap := by have : cur.size = cap * 1 := h3; omega
    replace h4 : cur.toList.take rows.length = inner := by have : cur.toList.take (rows.length * 1) = inner := h4; rwa [Nat.mul_one] at this
    have hgi : ρ0 g = i := hok g (by simp [Value.ownBlock])
    have hgB : w0.heap.size ≤ g := hW.own g (by rw [hgi]; omega)
    have hcur : ∀ t, t < rows.length → cur[t]? = some (f t).1 := by
      intro t ht
      have e2 : (cur.toList.take rows.length)[t]? = some (f t).1 := by
        rw [h4, hin]
        rw [fref_flat, List.getElem?_map, List.getElem?_range ht]; rfl
      rwa [List.getElem?_take, if_pos ht, Array.getElem?_toList] at e2
    have hH : Holds enc ws g 0 d0 := by
      intro t ht
      have ht' : t < rows.length := by rw [hd0] at ht; exact ht
      refine ⟨?_, by simp [World.frozen?, hb]⟩
      have e1 : d0[t]! = ⟨t, ht'⟩ := by
        rw [getElem!_pos d0 t ht]; simp [d0]
      rw [e1]
      simp only [World.cell?, hb, Nat.zero_add, Option.isSome_none, Bool.false_eq_true, if_false, id]
      exact hcur t ht'
    have hheap : ∀ (nn : Nat) (dk : Array (Fin rows.length)) (os : Array Obj) (k : Nat), k < ws.heap.size → k ≠ g → (sortWorld enc ws g 0 nn dk os).heap[k]? = ws.heap[k]? := by
      intro nn dk os k hk hne
      unfold sortWorld
      rw [heap_grow_old _ _ (by simpa using hk)]
      simp [putRow, mapBlock, Sort.ahead, Array.getElem?_modify, Ne.symm hne]
    have hsize : ∀ (nn : Nat) (dk : Array (Fin rows.length)) (os : Array Obj), ws.heap.size ≤ (sortWorld enc ws g 0 nn dk os).heap.size := by
      intro nn dk os
      unfold sortWorld
      simp
    have hTr : ∀ (nn : Nat) (dk : Array (Fin rows.length)) (os : Array Obj) (b : Nat), b ≠ i → Tr b ρ0 ws (ownr ρ0 ws i) (sortWorld enc ws g 0 nn dk os) := by
      intro nn dk os b hbi k hk hkb
      exact ⟨by rw [own_old hk]; exact hkb, hheap nn dk os k hk (fun h => hbi (by rw [← hkb, h]; exact hgi))⟩
    have hrow : ∀ (nn : Nat) (dk : Array (Fin rows.length)) (os : Array Obj) (x : Fin rows.length), Ow (kf d) e' (ownr ρ0 ws i) (sortWorld enc ws g 0 nn dk os) w0.heap.size (lab i x) (f x).1 rows[x] := by
      intro nn dk os x
      exact (ho.row x.1 rows[x] (List.getElem?_eq_getElem x.2)).tr (hTr nn dk os _ (lab_ne hi.2 x.1))
    have hmem : ∀ x : Fin rows.length, rows[x] ∈ rows := fun x => List.getElem_mem x.2
    let cf : Fin rows.length → Fin rows.length → Int := fun x y => cfOf cmp rows[x] rows[y]
    have hO : SWO (ltOf cf) := ⟨fun x => hS.1.irr _ (hmem x), fun x y z => hS.1.tr _ (hmem x) _ (hmem y) _ (hmem z), fun x y z => hS.1.ntr _ (hmem x) _ (hmem y) _ (hmem z)⟩
    have hcl : CmpLays1 P gc #[] enc cf g 0 d0.size ws := by
      intro mm os dk hdk x y
      obtain ⟨r0, hr0⟩ := hS.1.all _ (hmem x) _ (hmem y)
      refine (hc (W := sortWorld enc ws g 0 mm dk os) hr0 (hrow mm dk os x).ro (hrow mm dk os y).ro).mono ?_
      rintro e1 w1 ⟨v1, rfl, hbl, rfl⟩
      obtain ⟨q1, os1, h5⟩ := below_grow hbl
      refine ⟨?_, q1, os1, h5⟩
      have : cf x y = r0 := by
        show (cmp rows[x] rows[y]).getD 0 = r0
        rw [hr0]; rfl
      rw [this]
    have hs := Any.slices_SortFunc La enc (fun x => (f x.1).2) cf hO gc #[] g 0 cap d0 ws eg hcl hH hblk (by rw [hd0]; exact hS.2.1)
    rw [hd0] at hs
    refine hs.mono ?_
    rintro e1 w1 ⟨rfl, d1, nn, os, hp, hso, rfl⟩
    have hsz1 : d1.size = rows.length := by rw [hp.1, hd0]
    have hperm : d1.toList.Perm (List.finRange rows.length) := by
      have := hp.2.2
      have x1 : d1.extract 0 rows.length = d1 := by have h := Array.extract_size (xs := d1); rwa [hsz1] at h
      have x0 : d0.extract 0 rows.length = d0 := by have h := Array.extract_size (xs := d0); rwa [hd0] at h
      rw [x1, x0] at this
      simpa [d0] using this
    let idx1 : List Nat := d1.toList.map (·.1)
    have hlen1 : idx1.length = rows.length := by simp [idx1, hsz1]
    have hrw : (sortWorld enc ws g 0 nn d1 os).heap[g]? = some (.cells (putCells enc 0 d1 cur) e (0, 0)) := by
      unfold sortWorld
      rw [heap_grow_old _ _ (by simpa using hblk)]
      simp [putRow, mapBlock, Sort.ahead, Array.getElem?_modify, hb, onCells]
    have hWd : Wd w0 (ownr ρ0 ws i) (sortWorld enc ws g 0 nn d1 os) := by
      refine ⟨hW.below.trans ⟨rfl, rfl, rfl, hsize _ _ _, fun k hk => hheap _ _ _ k (Nat.lt_of_lt_of_le hk hW.below.size) (by omega), by show ws.drawn ≤ ws.drawn + nn; omega⟩, fun k hk => ?_⟩
      rcases Nat.lt_or_ge k ws.heap.size with h | h
      · rw [own_old h] at hk; exact hW.own k hk
      · exact Nat.le_trans hW.below.size h
    have hout : Ow (kf (fRef f)) e (ownr ρ0 ws i) (sortWorld enc ws g 0 nn d1 os) w0.heap.size i (.slice (some ⟨g, 0, none⟩) rows.length cap) idx1 := by
      refine ⟨fun k hk => ?_, idx1.flatMap (fRef f).enc, ⟨by rw [flatMap_len]; rfl, .inr ⟨g, cap, putCells enc 0 d1 cur, by rw [hlen1], hbase, hrw, by rw [hlen1]; exact h1, h2, ?_, ?_⟩⟩, ?_⟩
      · simp [Value.ownBlock] at hk
        subst hk
        rw [own_old hblk]; exact hgi
      · show (putCells enc 0 d1 cur).size = cap * 1
        simp [putCells, h3]
      · rw [hlen1]
        show (putCells enc 0 d1 cur).toList.take (rows.length * 1) = _
        rw [Nat.mul_one]
        apply List.ext_getElem?
        intro t
        rcases Nat.lt_or_ge t rows.length with ht | ht
        · rw [List.getElem?_take, if_pos ht, Array.getElem?_toList]
          rw [fref_flat, List.getElem?_map]
          have hs1 : t < d1.size := by omega
          simp only [putCells, Array.getElem?_mapIdx, Array.getElem?_eq_getElem (show t < cur.size by omega), Option.map_some, Nat.zero_le, true_and, Nat.zero_add, if_pos hs1, Nat.sub_zero, id]
          simp [idx1, enc, getElem!_pos d1 t hs1, Array.getElem?_eq_getElem hs1]
        · rw [List.getElem?_take_eq_none (by omega), List.getElem?_eq_none (by rw [flatMap_len, hlen1]; show rows.length * 1 ≤ t; omega)]
      · refine ⟨by rw [flatMap_len]; rfl, fun jj pp hj => ?_⟩
        have hjl : jj < idx1.length := (List.getElem?_eq_some_iff.1 hj).1
        have hg := flatMap_get (fRef f) idx1 jj pp hjl
        rw [List.getD_eq_getElem?_getD, hj, Option.getD_some] at hg
        exact hg
    have hlt1 : ∀ r, r ∈ idx1 → r < rows.length := by
      intro r hr
      obtain ⟨x, _, rfl⟩ := List.mem_map.1 hr
      exact x.2
    have hnd : idx1.Nodup := by
      refine List.Pairwise.map _ (fun a b (h : a ≠ b) h2 => h (Fin.ext h2)) ?_
      exact hperm.nodup_iff.2 (List.nodup_finRange _)
    have hG : Gd d e' e (ownr ρ0 ws i) (sortWorld enc ws g 0 nn d1 os) w0.heap.size i (.slice (some ⟨g, 0, none⟩) rows.length cap) f idx1 rows :=
      ⟨hout, fun t xs ht => (ho.row t xs ht).tr (hTr nn d1 os _ (lab_ne hi.2 t)), hlt1, hi⟩
    obtain ⟨f', ρ', h5, h6, h7⟩ := hG.sort hWd hnd
    have hgi1 : gi idx1 rows = d1.toList.map fun x => rows[x] := by
      simp [gi, idx1, List.map_map]
    have hSr : SortedR cmp rows (gi idx1 rows) := by
      refine ⟨hS.1, hS.2.1, ?_, ?_⟩
      · rw [hgi1]
        refine (hperm.map _).trans ?_
        have : (List.finRange rows.length).map (fun x => rows[x]) = rows := by
          apply List.ext_getElem
          · simp
          · intro t h1 h2; simp
        exact .of_eq this
      · rw [hgi1, List.pairwise_map, List.pairwise_iff_getElem]
        intro t1 t2 ht1 ht2 hlt
        have ht1' : t1 < d1.size := by simpa using ht1
        have ht2' : t2 < d1.size := by simpa using ht2
        have := hso t1 t2 (Nat.zero_le _) hlt (by omega)
        rw [getElem!_pos d1 t2 ht2', getElem!_pos d1 t1 ht1'] at this
        rw [Array.getElem_toList, Array.getElem_toList]
        exact this
    have hreq := hSr.uniq hS
    rw [hreq] at h7
    exact ⟨_, rfl, ρ', h5, fun b h8 h9 k hk hkb => by
      obtain ⟨a1, a2⟩ := hTr nn d1 os b h8 k hk hkb
      obtain ⟨b1, b2⟩ := h6 b h8 h9 k (Nat.lt_of_lt_of_le hk (hsize _ _ _)) a1
      exact ⟨b1, b2.trans a2⟩, rfl, f', h7⟩

theorem st_gs {dt : Nat} {f : FuncId} {args : Array Value} {Φ : (Nat → Nat) → Value → World → Prop} (hf : Fr n a L) (hg : o.guard = none) (hd : o.dst = some dt) (hn : dt < n) (hr : (execOp a.eval o).run P w = .ok (.enter f args) w)
    (hc : Calls P f args w fun e w' => ∃ v, e = .returned v ∧ ∃ ρ', Wd w0 ρ' w' ∧ (∀ b, b ≠ i → (∀ r, b ≠ lab i r) → Tr b ρ w ρ' w') ∧ Φ ρ' v w')
    (h : ∀ a' v w' ρ', Fr n a' ((dt, v) :: L) → Wd w0 ρ' w' → (∀ b, b ≠ i → (∀ r, b ≠ lab i r) → Tr b ρ w ρ' w') → Φ ρ' v w' → wpList P ops Q rest a' w') : wpList P ops Q (o :: rest) a w :=
  st_call (Φ := fun v w' => ∃ ρ', Wd w0 ρ' w' ∧ (∀ b, b ≠ i → (∀ r, b ≠ lab i r) → Tr b ρ w ρ' w') ∧ Φ ρ' v w') hf hg hd hn hr hc fun a' v w' hf' ⟨ρ', h1, h2, h3⟩ => h a' v w' ρ' hf' h1 h2 h3

structure Rf (f : Nat → V1) (e : Nat) (ρ : Nat → Nat) (w : World) (B j : Nat) (v : Value) (idx : List Nat) (m : Nat) : Prop where
  out : Ow (kf (fRef f)) e ρ w B j v idx
  lt : ∀ r, r ∈ idx → r < m
theorem Rf.ext (h : Rf f e ρ w B i v idx m) (hE : Ext ρ w ρ' w') : Rf f e ρ' w' B i v idx m := ⟨h.out.ext hE, h.lt⟩
theorem Rf.adv (h : Rf f e ρ w B i v idx m) (hA : Adv j ρ w ρ' w') (hne : i ≠ j) : Rf f e ρ' w' B i v idx m := ⟨h.out.adv hA hne, h.lt⟩
theorem Rf.tr (h : Rf f e ρ w B i v idx m) (hT : Tr i ρ w ρ' w') : Rf f e ρ' w' B i v idx m := ⟨h.out.tr hT, h.lt⟩
theorem Rf.relab (h : Rf f e ρ w B j v idx m) (b : Nat) : Rf f e (relab ρ j b) w B b v idx m := ⟨h.out.relab b, h.lt⟩
theorem Rf.empty {dd : Kd β} (h : Ow dd e ρ w B i v []) (hs : dd.sz = 1) (f : Nat → V1) (m : Nat) : Rf f e ρ w B i v [] m := by
  refine ⟨⟨h.1, ?_⟩, fun r hr => by simp at hr⟩
  obtain ⟨inner, ho, hr⟩ := h.2
  have hin : inner = [] := by have := hr.1; simpa using this
  subst hin
  refine ⟨[], ?_, rfl, fun j p hj => by simp at hj⟩
  show World.ownsRow w B e 1 v _ _
  rw [← hs]
  exact ho
theorem Rf.lt_gl (h : Rf f e ρ w B i v idx m) (h0 : 0 ≤ p) (h1 : p < idx.length) : gl 0 idx p < m := by
  refine h.lt _ ?_
  have hp : p.toNat < idx.length := by omega
  unfold gl
  rw [List.getD_eq_getElem?_getD, List.getElem?_eq_getElem hp]
  exact List.getElem_mem hp
/-- what is handed back: rows of the grid, apart or not -/
theorem Rf.fresh {idx2 : List Nat} {e2 : Nat} (h : Rf f e ρ w w0.heap.size j v idx rows.length) (hG : Gd d e' e2 ρ w w0.heap.size i u f idx2 rows) (hl : ∀ r, lab i r ≠ j) : Fresh (Kd.slice e' (kf d)) e w0 w v (gi idx rows) := by
  obtain ⟨hown, inner, ho, hr⟩ := h.out
  refine ⟨fun _ _ => trivial, inner, by rw [gi_len]; exact ho, by rw [gi_len]; exact hr.1, fun jj p hj => ?_⟩
  simp only [gi, List.getElem?_map, Option.map_eq_some_iff] at hj
  obtain ⟨r, hr', rfl⟩ := hj
  have h2 : (inner.drop (jj * 1)).take 1 = [(f r).1] := hr.2 jj r hr'
  have hrl := h.lt r (List.mem_of_getElem? hr')
  refine ⟨(f r).1, h2, Kd.R_mono (hG.rowAt hrl) (fun k hk => ⟨trivial, fun he => ?_⟩)⟩
  have h7 : ρ k = j := hown k he.symm
  exact hl r (hk.symm.trans h7)
theorem r_lit_rf {bytes r : Nat} {z : Value} {o1 : Operand} (i : Nat) (hT : P.underlying T = some (.slice e)) (he : El P e 1 bytes z) (hw : Wd w0 ρ w) (hf : Fr n a L) (hx : ev L o1 = some (f r).1) (hc : (f r).1.cells.toList = [(f r).1]) (hr : r < m) :
    ∃ v w', (execOp a.eval ⟨dd, .buildSlice T 1 #[(0, o1)], ty, pos, af, gd⟩).run P w = .ok (.value v) w' ∧ ∃ ρ', Wd w0 ρ' w' ∧ Ext ρ w ρ' w' ∧ Rf f e ρ' w' w0.heap.size i v [r] m := by
  obtain ⟨v, w', h2, ρ', h3, h4, h5⟩ := r_lit (dd := dd) (ty := ty) (pos := pos) (af := af) (gd := gd) (l := [(0, o1)]) (d := fRef f) (xs := [r]) (vs := [(f r).1]) i hT he (Nat.le_of_ble_eq_true rfl) (Nat.le_of_ble_eq_true rfl) hw hf (by simp [hx]) rfl (by simp [fRef, hc])
  exact ⟨v, w', h2, ρ', h3, h4, h5, fun s hs => by rw [List.mem_singleton.1 hs]; exact hr⟩
theorem r_none_rf {bytes : Nat} {z : Value} (f : Nat → V1) (m i : Nat) (hT : P.underlying T = some (.slice e)) (he : El P e 1 bytes z) (hw : Wd w0 ρ w) :
    ∃ v w', (execOp a.eval ⟨dd, .buildSlice T 0 #[], ty, pos, af, gd⟩).run P w = .ok (.value v) w' ∧ ∃ ρ', Wd w0 ρ' w' ∧ Ext ρ w ρ' w' ∧ Rf f e ρ' w' w0.heap.size i v [] m := by
  obtain ⟨v, w', h2, ρ', h3, h4, h5⟩ := r_lit_none (P := P) (a := a) (dd := dd) (ty := ty) (pos := pos) (af := af) (gd := gd) (d := kf (fRef f)) i hT he hw
  exact ⟨v, w', h2, ρ', h3, h4, h5, fun s hs => by simp at hs⟩
theorem mem_lt_app {l1 l2 : List Nat} (h1 : ∀ r, r ∈ l1 → r < m) (h2 : ∀ r, r ∈ l2 → r < m) : ∀ r, r ∈ l1 ++ l2 → r < m := fun r hr => (List.mem_append.1 hr).elim (h1 r) (h2 r)
theorem mem_lt_cut {l : List Nat} (h : ∀ r, r ∈ l → r < m) (i j : Nat) : ∀ r, r ∈ (l.take i).drop j → r < m := fun r hr => h r (List.mem_of_mem_take (List.mem_of_mem_drop hr))
end Go.Proofs.YtB
