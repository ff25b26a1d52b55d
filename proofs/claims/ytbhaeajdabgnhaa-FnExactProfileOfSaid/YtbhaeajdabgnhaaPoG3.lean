/- Functions of the program as plain functions, and that they compute these. Printed by gen.py. -/
import Derived.Test.YtbhaeajdabgnhaaPoG2
set_option linter.unusedVariables false
set_option linter.unusedSimpArgs false
set_option maxRecDepth 4000
set_option maxHeartbeats 1000000
namespace Go.Proofs.YtB
open Go Go.RowKit Go.Proofs Go.Proofs.YtbhaeajdabgnhaaW.PrintWords
/-! f82 -/
noncomputable def spec_l04Less_l1 (a0 : List Int) (a1 : List Int) (s2 : Int) : Option (LR Int Bool) :=
  if (decide (s2 < 3)) = true then (if 0 ≤ s2 ∧ s2 < (a0.length : Int) then (if 0 ≤ s2 ∧ s2 < (a1.length : Int) then (if (decide ((gl 0 a0 s2) ≠ (gl 0 a1 s2))) = true then (some (.ret (decide ((gl 0 a0 s2) < (gl 0 a1 s2))))) else (some (.next (w64 (s2 + 1))))) else none) else none) else (some (.stop s2))
noncomputable def spec_l04Less (a0 : List Int) (a1 : List Int) : Option Bool :=
  (iter (fun s => spec_l04Less_l1 a0 a1 s) 0).bind fun o => match o with | .stop s2 => (some (false)) | .ret r => some r | .next _ => none
theorem spec_l04Less_ok {w0 : World} {a0 : List Int} {a1 : List Int} {va0 : Value} {va1 : Value} (h0 : Ro (kf fI64) w0 va0 a0) (h1 : Ro (kf fI64) w0 va1 a1) {r : Bool} (hF : spec_l04Less a0 a1 = some r) :
    Calls Try.prog 82 [va0, va1].toArray w0 fun e w => ∃ v, e = .returned v ∧ Below w0.heap.size w0 w ∧ .bool r = v := by
  refine calls_of (k := 28) Try.func82 rfl rfl (Nat.le_of_ble_eq_true rfl) fun a hf => ?_
  replace hf : Fr 28 a [(0, va0), (1, va1)] := hf
  refine c_start fun w ρ hw => ?_
  unfold spec_l04Less at hF
  refine c_seq <| c_region ?_
  refine s_ hf (r_assign hf rfl) fun a hf => ?_
  refine c_nt <| c_seq <| c_seq <| c_region ?_
  refine s_ hf (r_assign hf rfl) fun a hf => ?_
  refine c_nt ?_
  obtain ⟨ol1, ho1, hG1⟩ := of_bind hF
  clear hF
  refine c_block (c_loop (id := 0) (fun s => spec_l04Less_l1 a0 a1 s) (fun (s2 : Int) a w => ∃ ρ, Wd w0 ρ w ∧ Fr 28 a [(0, va0), (1, va1), (5, vI s2)]) (fun (s2 : Int) a w => ∃ ρ, Wd w0 ρ w ∧ Fr 28 a []) ho1 ⟨_, hw, hf.sub ⟨rfl, rfl, rfl, trivial⟩⟩ ?_ ?_)
  · rintro s2 lr a w ⟨ρ, hw, hf⟩ hF
    replace hF : spec_l04Less_l1 a0 a1 s2 = some lr := hF
    unfold spec_l04Less_l1 at hF
    refine c_seq <| c_seq <| c_region ?_
    refine s_ hf (r_move hf rfl) fun a hf => ?_
    refine s_ hf (r_lss hf rfl rfl) fun a hf => ?_
    refine c_nt ?_
    rcases of_ite hF with ⟨hb3, hF⟩ | ⟨hb3, hF⟩
    rotate_left
    · refine c_iff hf rfl hb3 <| c_exit <| x_then ?_
      obtain rfl := Option.some.inj hF
      exact Rnd.stops ⟨_, hw, hf.sub trivial⟩
    refine c_ift hf rfl hb3 <| c_skip <| n_then <| c_seq <| c_block <| c_seq ?_
    obtain ⟨hc4, hF⟩ := of_guard hF
    obtain ⟨ad5, c5, he5, hl5⟩ := Ro.el fI64 h0 0 hc4.1 hc4.2
    obtain ⟨hc6, hF⟩ := of_guard hF
    obtain ⟨ad7, c7, he7, hl7⟩ := Ro.el fI64 h1 0 hc6.1 hc6.2
    replace hf : Fr 28 a [(0, va0), (1, va1), (5, vI s2)] := hf.sub ⟨rfl, rfl, rfl, trivial⟩
    refine c_drawL (h := 8) mixed (by kernel_rfl) (by kernel_rfl) (fun ρ w => True) ?_ [fun ρ w v => va0 = v, fun ρ w v => vI s2 = v, fun ρ w v => .pointer (some (ad5.add (s2.toNat * 1))) = v, fun ρ w v => vI (gl 0 a0 s2) = v, fun ρ w v => va1 = v, fun ρ w v => vI s2 = v, fun ρ w v => .pointer (some (ad7.add (s2.toNat * 1))) = v, fun ρ w v => vI (gl 0 a1 s2) = v] ?_ hw trivial hf ?_ ?_
    · intro ρ w ρ' w' hE hG
      skip
      exact trivial
    · exact LastsL.cons (fun _ _ _ _ _ _ h => h) <| LastsL.cons (fun _ _ _ _ _ _ h => h) <| LastsL.cons (fun _ _ _ _ _ _ h => h) <| LastsL.cons (fun _ _ _ _ _ _ h => h) <| LastsL.cons (fun _ _ _ _ _ _ h => h) <| LastsL.cons (fun _ _ _ _ _ _ h => h) <| LastsL.cons (fun _ _ _ _ _ _ h => h) <| LastsL.cons (fun _ _ _ _ _ _ h => h) <| LastsL.nil
    · refine StepsB.cons ?_ <| StepsB.cons ?_ <| StepsB.cons ?_ <| StepsB.cons ?_ <| StepsB.cons ?_ <| StepsB.cons ?_ <| StepsB.cons ?_ <| StepsB.cons ?_ <| StepsB.nil
      · intro ρ w a hw hG hf hd K hK
        exact dv_ hK hw (wn rfl) (r_move hf rfl) rfl
      · intro ρ w a hw hG hf hd K hK
        exact dv_ hK hw (wn rfl) (r_move hf rfl) rfl
      · intro ρ w a hw hG hf hd K hK
        obtain ⟨_, hf, rfl⟩ := got (hd 0 (by kernel_rfl)) hf
        obtain ⟨_, hf, rfl⟩ := got (hd 1 (by kernel_rfl)) hf
        exact dv_ hK hw (wn rfl) (r_idx Try.underlying36 sz2 hf rfl ⟨_, he5⟩ rfl hc4.1 hc4.2) rfl
      · intro ρ w a hw hG hf hd K hK
        obtain ⟨_, hf, rfl⟩ := got (hd 2 (by kernel_rfl)) hf
        exact dv_ hK hw (wn rfl) (r_load_cell ty2 hf rfl (hl5.below hw.below)) rfl
      · intro ρ w a hw hG hf hd K hK
        exact dv_ hK hw (wn rfl) (r_move hf rfl) rfl
      · intro ρ w a hw hG hf hd K hK
        exact dv_ hK hw (wn rfl) (r_move hf rfl) rfl
      · intro ρ w a hw hG hf hd K hK
        obtain ⟨_, hf, rfl⟩ := got (hd 4 (by kernel_rfl)) hf
        obtain ⟨_, hf, rfl⟩ := got (hd 5 (by kernel_rfl)) hf
        exact dv_ hK hw (wn rfl) (r_idx Try.underlying36 sz2 hf rfl ⟨_, he7⟩ rfl hc6.1 hc6.2) rfl
      · intro ρ w a hw hG hf hd K hK
        obtain ⟨_, hf, rfl⟩ := got (hd 6 (by kernel_rfl)) hf
        exact dv_ hK hw (wn rfl) (r_load_cell ty2 hf rfl (hl7.below hw.below)) rfl
    intro ρ w a hw hG hf hd
    obtain ⟨_, hf, rfl⟩ := got (hd 3 (by decide)) hf
    obtain ⟨_, hf, rfl⟩ := got (hd 7 (by decide)) hf
    refine s_ hf (r_neq hf rfl rfl) fun a hf => ?_
    refine c_nt ?_
    rcases of_ite hF with ⟨hb8, hF⟩ | ⟨hb8, hF⟩
    rotate_left
    · refine c_iff hf rfl hb8 <| c_skip <| n_block <| n_then <| c_region ?_
      refine s_ hf (r_move hf rfl) fun a hf => ?_
      refine s_ hf (r_add hf rfl rfl) fun a hf => ?_
      refine s_ hf (r_assign hf rfl) fun a hf => ?_
      refine c_nil ?_
      obtain rfl := Option.some.inj hF
      exact Rnd.goes ⟨_, hw, hf.sub ⟨rfl, rfl, rfl, trivial⟩⟩
    refine c_ift hf rfl hb8 <| c_seq ?_
    obtain ⟨ad9, c9, he9, hl9⟩ := Ro.el fI64 h0 0 hc4.1 hc4.2
    obtain ⟨ad10, c10, he10, hl10⟩ := Ro.el fI64 h1 0 hc6.1 hc6.2
    replace hf : Fr 28 a [(0, va0), (1, va1), (5, vI s2)] := hf.sub ⟨rfl, rfl, rfl, trivial⟩
    refine c_drawL (h := 8) mixed (by kernel_rfl) (by kernel_rfl) (fun ρ w => True) ?_ [fun ρ w v => va0 = v, fun ρ w v => vI s2 = v, fun ρ w v => .pointer (some (ad9.add (s2.toNat * 1))) = v, fun ρ w v => vI (gl 0 a0 s2) = v, fun ρ w v => va1 = v, fun ρ w v => vI s2 = v, fun ρ w v => .pointer (some (ad10.add (s2.toNat * 1))) = v, fun ρ w v => vI (gl 0 a1 s2) = v] ?_ hw trivial hf ?_ ?_
    · intro ρ w ρ' w' hE hG
      skip
      exact trivial
    · exact LastsL.cons (fun _ _ _ _ _ _ h => h) <| LastsL.cons (fun _ _ _ _ _ _ h => h) <| LastsL.cons (fun _ _ _ _ _ _ h => h) <| LastsL.cons (fun _ _ _ _ _ _ h => h) <| LastsL.cons (fun _ _ _ _ _ _ h => h) <| LastsL.cons (fun _ _ _ _ _ _ h => h) <| LastsL.cons (fun _ _ _ _ _ _ h => h) <| LastsL.cons (fun _ _ _ _ _ _ h => h) <| LastsL.nil
    · refine StepsB.cons ?_ <| StepsB.cons ?_ <| StepsB.cons ?_ <| StepsB.cons ?_ <| StepsB.cons ?_ <| StepsB.cons ?_ <| StepsB.cons ?_ <| StepsB.cons ?_ <| StepsB.nil
      · intro ρ w a hw hG hf hd K hK
        exact dv_ hK hw (wn rfl) (r_move hf rfl) rfl
      · intro ρ w a hw hG hf hd K hK
        exact dv_ hK hw (wn rfl) (r_move hf rfl) rfl
      · intro ρ w a hw hG hf hd K hK
        obtain ⟨_, hf, rfl⟩ := got (hd 0 (by kernel_rfl)) hf
        obtain ⟨_, hf, rfl⟩ := got (hd 1 (by kernel_rfl)) hf
        exact dv_ hK hw (wn rfl) (r_idx Try.underlying36 sz2 hf rfl ⟨_, he9⟩ rfl hc4.1 hc4.2) rfl
      · intro ρ w a hw hG hf hd K hK
        obtain ⟨_, hf, rfl⟩ := got (hd 2 (by kernel_rfl)) hf
        exact dv_ hK hw (wn rfl) (r_load_cell ty2 hf rfl (hl9.below hw.below)) rfl
      · intro ρ w a hw hG hf hd K hK
        exact dv_ hK hw (wn rfl) (r_move hf rfl) rfl
      · intro ρ w a hw hG hf hd K hK
        exact dv_ hK hw (wn rfl) (r_move hf rfl) rfl
      · intro ρ w a hw hG hf hd K hK
        obtain ⟨_, hf, rfl⟩ := got (hd 4 (by kernel_rfl)) hf
        obtain ⟨_, hf, rfl⟩ := got (hd 5 (by kernel_rfl)) hf
        exact dv_ hK hw (wn rfl) (r_idx Try.underlying36 sz2 hf rfl ⟨_, he10⟩ rfl hc6.1 hc6.2) rfl
      · intro ρ w a hw hG hf hd K hK
        obtain ⟨_, hf, rfl⟩ := got (hd 6 (by kernel_rfl)) hf
        exact dv_ hK hw (wn rfl) (r_load_cell ty2 hf rfl (hl10.below hw.below)) rfl
    intro ρ w a hw hG hf hd
    obtain ⟨_, hf, rfl⟩ := got (hd 3 (by decide)) hf
    obtain ⟨_, hf, rfl⟩ := got (hd 7 (by decide)) hf
    refine s_ hf (r_lss hf rfl rfl) fun a hf => ?_
    refine s_ hf (r_assign hf rfl) fun a hf => ?_
    refine c_nt <| c_retc ?_
    obtain rfl := Option.some.inj hF
    refine r_block <| r_then ?_
    refine Rnd.rets fun ho => ?_
    subst ho
    have hF := hG1
    dsimp only at hF
    obtain rfl := Option.some.inj hF
    refine r_block <| r_then <| c_ret hf (res_tmp Try.results82 hf rfl) ?_
    exact ⟨_, rfl, hw.below, rfl⟩
  rintro s2 a w hs ⟨ρ, hw, hf⟩
  subst hs
  have hF := hG1
  dsimp only at hF
  refine x_block <| n_then <| c_seq <| c_region ?_
  refine s_ hf (r_assign hf rfl) fun a hf => ?_
  refine c_nt <| c_retc ?_
  obtain rfl := Option.some.inj hF
  refine c_ret hf (res_tmp Try.results82 hf rfl) ?_
  exact ⟨_, rfl, hw.below, rfl⟩
/-! f35 -/
noncomputable def spec_ProfileOf_l10 (x1 : List (List Int) × Int) (s6 : Int) (s7 : List Nat) (s11 : Int) : Option (LR Int (List (List Int) × Int)) :=
  (if (decide (0 < s11)) = true then (if 0 ≤ s6 ∧ s6 < ((List.range x1.1.length).length : Int) then (if 0 ≤ w64 (s11 - 1) ∧ w64 (s11 - 1) < (s7.length : Int) then ((spec_l04Less (x1.1.getD (gl 0 (List.range x1.1.length) s6) []) (x1.1.getD (gl 0 s7 (w64 (s11 - 1))) [])).bind fun x19 => some x19) else none) else none) else (some false)).bind fun (s13 : Bool) => if s13 = true then (some (.next (w64 (s11 - 1)))) else (some (.stop s11))
noncomputable def spec_ProfileOf_l5 (x1 : List (List Int) × Int) (s6 : Int) (s7 : List Nat) : Option (LR (Int × (List Nat)) (List (List Int) × Int)) :=
  if (decide (s6 < ((List.range x1.1.length).length : Int))) = true then ((iter (fun s => spec_ProfileOf_l10 x1 s6 s7 s) (s7.length : Int)).bind fun o => match o with | .stop s11 => (if 0 ≤ s6 ∧ s6 < ((List.range x1.1.length).length : Int) then (if 0 ≤ s11 ∧ s11 ≤ (s7.length : Int) then (if (([(gl 0 (List.range x1.1.length) s6)]).length + ((s7.take (s7.length : Int).toNat).drop s11.toNat).length) * 24 ≤ 140737488355328 then (if (0 : Int) ≤ s11 ∧ s11 ≤ (s7.length : Int) then (if (([] : List Nat).length + ((s7.take s11.toNat).drop (0 : Int).toNat).length) * 24 ≤ 140737488355328 then (if ((([] : List Nat) ++ ((s7.take s11.toNat).drop (0 : Int).toNat)).length + ([(gl 0 (List.range x1.1.length) s6)] ++ ((s7.take (s7.length : Int).toNat).drop s11.toNat)).length) * 24 ≤ 140737488355328 then (some (.next (w64 (s6 + 1), ((([] : List Nat) ++ ((s7.take s11.toNat).drop (0 : Int).toNat)) ++ ([(gl 0 (List.range x1.1.length) s6)] ++ ((s7.take (s7.length : Int).toNat).drop s11.toNat)))))) else none) else none) else none) else none) else none) else none) | .ret r => some (.ret r) | .next _ => none) else (some (.stop (s6, s7)))
noncomputable def spec_ProfileOf (a0 : Sch) : Option (List (List Int) × Int) :=
  (spec_RanksOf a0).bind fun x1 => if (decide (x1.2 ≠ 0)) = true then (some ((([] : List (List Int)), x1.2))) else ((iter (fun s => spec_ProfileOf_l5 x1 s.1 s.2) (0, ([] : List Nat))).bind fun o => match o with | .stop (s6, s7) => (some (((gi s7 x1.1), 0))) | .ret r => some r | .next _ => none)
theorem spec_ProfileOf_ok {w0 : World} {a0 : Sch} {va0 : Value} (h0 : Ro (kf cProd) w0 va0 a0.ps) {r : List (List Int) × Int} (hF : spec_ProfileOf a0 = some r) :
    Calls Try.prog 35 [.agg ([vI a0.p, vI a0.n, vI a0.m, vI a0.k, va0]).toArray].toArray w0 fun e w => ∃ v, e = .returned v ∧ Below w0.heap.size w0 w ∧ ∃ u0, .tuple #[u0, .int .i64 r.2] = v ∧ Fresh (Kd.slice 2 (kf fI64)) 36 w0 w u0 r.1 := by
  refine calls_of (k := 60) Try.func35 rfl rfl (Nat.le_of_ble_eq_true rfl) fun a hf => ?_
  replace hf : Fr 60 a [(0, .agg ([vI a0.p, vI a0.n, vI a0.m, vI a0.k, va0]).toArray)] := hf
  refine c_start fun w ρ hw => ?_
  unfold spec_ProfileOf at hF
  refine c_seq <| c_region ?_
  refine sx_ hf (r_box (cs := [vI a0.p, vI a0.n, vI a0.m, vI a0.k, va0]) 1 hw hf rfl rfl) fun a v w hf hΦ => ?_
  obtain ⟨g1, ρ, rfl, hw, hE, o1⟩ := hΦ
  have o2 : Ow (Kd.slice 2 (kf fI64)) 36 ρ w w0.heap.size 2 (.slice none 0 0) [] := Ow.nil _ _ _ _ _ _
  refine s_ hf (r_assign hf rfl) fun a hf => ?_
  refine s_ hf (r_assign hf rfl) fun a hf => ?_
  refine c_nt <| c_seq <| c_region ?_
  refine s_ hf (r_load_agg ty39 hf rfl o1.cl rfl) fun a hf => ?_
  obtain ⟨x1, hx2, hF⟩ := of_bind hF
  refine st_fnr hf (r_fn en81 hf rfl) (spec_RanksOf_ok (a0 := a0) (h0.now hw) hx2) fun a v w hf hb hΦ => ?_
  obtain ⟨u3, rfl, hg⟩ := hΦ
  obtain ⟨f3, ρ, hw, hE, o3⟩ := hg.own hw hb 3 (by decide)
  replace o1 := o1.ext hE
  replace o2 := o2.ext hE
  refine s_ hf (r_move hf rfl) fun a hf => ?_
  refine s_ hf (r_extract hf rfl rfl) fun a hf => ?_
  refine s_ hf (r_extract hf rfl rfl) fun a hf => ?_
  refine s_ hf (r_assign hf rfl) fun a hf => ?_
  refine s_ hf (r_assign hf rfl) fun a hf => ?_
  refine c_nt <| c_seq <| c_seq <| c_region ?_
  refine s_ hf (r_move hf rfl) fun a hf => ?_
  refine s_ hf (r_neq hf rfl rfl) fun a hf => ?_
  refine c_nt ?_
  rcases of_ite hF with ⟨hb4, hF⟩ | ⟨hb4, hF⟩
  · refine c_ift hf rfl hb4 <| c_seq <| c_region ?_
    refine s_ hf (r_move hf rfl) fun a hf => ?_
    have o4 : Ow (Kd.slice 2 (kf fI64)) 36 ρ w w0.heap.size 4 (.slice none 0 0) [] := Ow.nil _ _ _ _ _ _
    refine s_ hf (r_assign hf rfl) fun a hf => ?_
    refine s_ hf (r_assign hf rfl) fun a hf => ?_
    refine c_nt <| c_retc ?_
    obtain rfl := Option.some.inj hF
    refine r_then <| c_ret hf (res_tt Try.results35 hf rfl rfl) ?_
    exact ⟨_, rfl, hw.below, ⟨_, rfl, o4.out⟩⟩
  refine c_iff hf rfl hb4 <| c_skip <| n_then <| c_seq <| c_region ?_
  refine sx_ hf (r_none_rf f3 x1.1.length 5 Try.underlying24 el36 hw) fun a v5 w hf hΦ => ?_
  obtain ⟨ρ, hw, hE, o5⟩ := hΦ
  replace o1 := o1.ext hE
  replace o2 := o2.ext hE
  replace o3 := o3.ext hE
  refine s_ hf (r_assign hf rfl) fun a hf => ?_
  refine c_nt <| c_seq <| c_seq <| c_region ?_
  refine s_ hf (r_assign hf rfl) fun a hf => ?_
  refine c_nt ?_
  obtain ⟨ol5, ho5, hG5⟩ := of_bind hF
  clear hF
  refine c_block (c_loop (id := 0) (fun s => spec_ProfileOf_l5 x1 s.1 s.2) (fun (s : Int × (List Nat)) a w => match s with | (s6, s7) => ∃ ρ vv8, Wd w0 ρ w ∧ Fr 60 a [(4, u3), (6, vv8), (7, vI s6)] ∧ Gd fI64 2 36 ρ w w0.heap.size 3 u3 f3 (List.range x1.1.length) x1.1 ∧ Rf f3 36 ρ w w0.heap.size 5 vv8 s7 x1.1.length) (fun (s : Int × (List Nat)) a w => match s with | (s6, s7) => ∃ ρ vv8, Wd w0 ρ w ∧ Fr 60 a [(6, vv8)] ∧ Gd fI64 2 36 ρ w w0.heap.size 3 u3 f3 (List.range x1.1.length) x1.1 ∧ Rf f3 36 ρ w w0.heap.size 5 vv8 s7 x1.1.length) ho5 ⟨_, _, hw, hf.sub ⟨rfl, rfl, rfl, trivial⟩, o3, o5⟩ ?_ ?_)
  · rintro ⟨s6, s7⟩ lr a w ⟨ρ, vv8, hw, hf, o3, o5⟩ hF
    replace hF : spec_ProfileOf_l5 x1 s6 s7 = some lr := hF
    unfold spec_ProfileOf_l5 at hF
    refine c_seq <| c_seq <| c_region ?_
    refine s_ hf (r_move hf rfl) fun a hf => ?_
    refine s_ hf (r_move hf rfl) fun a hf => ?_
    refine s_ hf (r_len Try.underlying24 o3.out.ro hf rfl) fun a hf => ?_
    refine s_ hf (r_lss hf rfl rfl) fun a hf => ?_
    refine c_nt ?_
    rcases of_ite hF with ⟨hb9, hF⟩ | ⟨hb9, hF⟩
    rotate_left
    · refine c_iff hf rfl hb9 <| c_exit <| x_then ?_
      obtain rfl := Option.some.inj hF
      exact Rnd.stops ⟨_, _, hw, hf.sub ⟨rfl, trivial⟩, o3, o5⟩
    refine c_ift hf rfl hb9 <| c_skip <| n_then <| c_seq <| c_block <| c_seq <| c_region ?_
    refine s_ hf (r_move hf rfl) fun a hf => ?_
    refine s_ hf (r_len Try.underlying24 o5.out.ro hf rfl) fun a hf => ?_
    refine s_ hf (r_assign hf rfl) fun a hf => ?_
    refine c_nt <| c_seq ?_
    obtain ⟨ol10, ho10, hG10⟩ := of_bind hF
    clear hF
    refine c_block (c_loop (id := 2) (fun s => spec_ProfileOf_l10 x1 s6 s7 s) (fun (s11 : Int) a w => ∃ ρ, Wd w0 ρ w ∧ Fr 60 a [(4, u3), (6, vv8), (7, vI s6), (8, vI s11)] ∧ Gd fI64 2 36 ρ w w0.heap.size 3 u3 f3 (List.range x1.1.length) x1.1 ∧ Rf f3 36 ρ w w0.heap.size 5 vv8 s7 x1.1.length) (fun (s11 : Int) a w => ∃ ρ, Wd w0 ρ w ∧ Fr 60 a [(4, u3), (6, vv8), (7, vI s6), (8, vI s11)] ∧ Gd fI64 2 36 ρ w w0.heap.size 3 u3 f3 (List.range x1.1.length) x1.1 ∧ Rf f3 36 ρ w w0.heap.size 5 vv8 s7 x1.1.length) ho10 ⟨_, hw, hf.sub ⟨rfl, rfl, rfl, rfl, trivial⟩, o3, o5⟩ ?_ ?_)
    · rintro s11 lr a w ⟨ρ, hw, hf, o3, o5⟩ hF
      replace hF : spec_ProfileOf_l10 x1 s6 s7 s11 = some lr := hF
      unfold spec_ProfileOf_l10 at hF
      refine c_seq <| c_seq ?_
      obtain ⟨s13, hT12, hG12⟩ := of_bind hF
      clear hF
      refine c_meet (fun (s13 : Bool) a w => ∃ ρ, Wd w0 ρ w ∧ Fr 60 a [(4, u3), (6, vv8), (7, vI s6), (8, vI s11), (40, .bool s13)] ∧ Gd fI64 2 36 ρ w w0.heap.size 3 u3 f3 (List.range x1.1.length) x1.1 ∧ Rf f3 36 ρ w w0.heap.size 5 vv8 s7 x1.1.length) s13 ?_ ?_
      · have hF := hT12
        rcases of_ite hF with ⟨hb14, hF⟩ | ⟨hb14, hF⟩
        rotate_left
        · replace hf : Fr 60 a [(4, u3), (6, vv8), (7, vI s6), (8, vI s11)] := hf.sub ⟨rfl, rfl, rfl, rfl, trivial⟩
          refine c_drawL (h := 12) mixed (by kernel_rfl) (by kernel_rfl) (fun ρ w => Gd fI64 2 36 ρ w w0.heap.size 3 u3 f3 (List.range x1.1.length) x1.1 ∧ Rf f3 36 ρ w w0.heap.size 5 vv8 s7 x1.1.length) ?_ [fun ρ w v => vI s11 = v, fun ρ w v => .bool (decide (0 < s11)) = v, fun ρ w v => .bool (decide (0 < s11)) = v, fun ρ w v => undef = v, fun ρ w v => undef = v, fun ρ w v => undef = v, fun ρ w v => undef = v, fun ρ w v => undef = v, fun ρ w v => undef = v, fun ρ w v => undef = v, fun ρ w v => undef = v, fun ρ w v => undef = v] ?_ hw ⟨o3, o5⟩ hf ?_ ?_
          · intro ρ w ρ' w' hE hG
            obtain ⟨o3, o5⟩ := hG
            exact ⟨o3.ext hE, o5.ext hE⟩
          · exact LastsL.cons (fun _ _ _ _ _ _ h => h) <| LastsL.cons (fun _ _ _ _ _ _ h => h) <| LastsL.cons (fun _ _ _ _ _ _ h => h) <| LastsL.cons (fun _ _ _ _ _ _ h => h) <| LastsL.cons (fun _ _ _ _ _ _ h => h) <| LastsL.cons (fun _ _ _ _ _ _ h => h) <| LastsL.cons (fun _ _ _ _ _ _ h => h) <| LastsL.cons (fun _ _ _ _ _ _ h => h) <| LastsL.cons (fun _ _ _ _ _ _ h => h) <| LastsL.cons (fun _ _ _ _ _ _ h => h) <| LastsL.cons (fun _ _ _ _ _ _ h => h) <| LastsL.cons (fun _ _ _ _ _ _ h => h) <| LastsL.nil
          · refine StepsB.cons ?_ <| StepsB.cons ?_ <| StepsB.cons ?_ <| StepsB.cons ?_ <| StepsB.cons ?_ <| StepsB.cons ?_ <| StepsB.cons ?_ <| StepsB.cons ?_ <| StepsB.cons ?_ <| StepsB.cons ?_ <| StepsB.cons ?_ <| StepsB.cons ?_ <| StepsB.nil
            · intro ρ w a hw hG hf hd K hK
              obtain ⟨o3, o5⟩ := hG
              exact dv_ hK hw (wn rfl) (r_move hf rfl) rfl
            · intro ρ w a hw hG hf hd K hK
              obtain ⟨o3, o5⟩ := hG
              obtain ⟨_, hf, rfl⟩ := got (hd 0 (by kernel_rfl)) hf
              exact dv_ hK hw (wn rfl) (r_gtr hf rfl rfl) rfl
            · intro ρ w a hw hG hf hd K hK
              obtain ⟨o3, o5⟩ := hG
              obtain ⟨_, hf, rfl⟩ := got (hd 1 (by kernel_rfl)) hf
              exact dv_ hK hw (wn rfl) (r_move hf rfl) rfl
            · intro ρ w a hw hG hf hd K hK
              obtain ⟨o3, o5⟩ := hG
              obtain ⟨_, hf, rfl⟩ := got (hd 2 (by kernel_rfl)) hf
              exact do_ hK (b := false) hw hf rfl rfl rfl hb14 rfl rfl
            · intro ρ w a hw hG hf hd K hK
              obtain ⟨o3, o5⟩ := hG
              obtain ⟨_, hf, rfl⟩ := got (hd 2 (by kernel_rfl)) hf
              exact do_ hK (b := false) hw hf rfl rfl rfl hb14 rfl rfl
            · intro ρ w a hw hG hf hd K hK
              obtain ⟨o3, o5⟩ := hG
              obtain ⟨_, hf, rfl⟩ := got (hd 2 (by kernel_rfl)) hf
              obtain ⟨_, hf, rfl⟩ := got (hd 3 (by kernel_rfl)) hf
              obtain ⟨_, hf, rfl⟩ := got (hd 4 (by kernel_rfl)) hf
              exact do_ hK (b := false) hw hf rfl rfl rfl hb14 rfl rfl
            · intro ρ w a hw hG hf hd K hK
              obtain ⟨o3, o5⟩ := hG
              obtain ⟨_, hf, rfl⟩ := got (hd 2 (by kernel_rfl)) hf
              obtain ⟨_, hf, rfl⟩ := got (hd 5 (by kernel_rfl)) hf
              exact do_ hK (b := false) hw hf rfl rfl rfl hb14 rfl rfl
            · intro ρ w a hw hG hf hd K hK
              obtain ⟨o3, o5⟩ := hG
              obtain ⟨_, hf, rfl⟩ := got (hd 2 (by kernel_rfl)) hf
              exact do_ hK (b := false) hw hf rfl rfl rfl hb14 rfl rfl
            · intro ρ w a hw hG hf hd K hK
              obtain ⟨o3, o5⟩ := hG
              obtain ⟨_, hf, rfl⟩ := got (hd 2 (by kernel_rfl)) hf
              exact do_ hK (b := false) hw hf rfl rfl rfl hb14 rfl rfl
            · intro ρ w a hw hG hf hd K hK
              obtain ⟨o3, o5⟩ := hG
              obtain ⟨_, hf, rfl⟩ := got (hd 2 (by kernel_rfl)) hf
              obtain ⟨_, hf, rfl⟩ := got (hd 8 (by kernel_rfl)) hf
              exact do_ hK (b := false) hw hf rfl rfl rfl hb14 rfl rfl
            · intro ρ w a hw hG hf hd K hK
              obtain ⟨o3, o5⟩ := hG
              obtain ⟨_, hf, rfl⟩ := got (hd 2 (by kernel_rfl)) hf
              obtain ⟨_, hf, rfl⟩ := got (hd 7 (by kernel_rfl)) hf
              obtain ⟨_, hf, rfl⟩ := got (hd 9 (by kernel_rfl)) hf
              exact do_ hK (b := false) hw hf rfl rfl rfl hb14 rfl rfl
            · intro ρ w a hw hG hf hd K hK
              obtain ⟨o3, o5⟩ := hG
              obtain ⟨_, hf, rfl⟩ := got (hd 2 (by kernel_rfl)) hf
              obtain ⟨_, hf, rfl⟩ := got (hd 10 (by kernel_rfl)) hf
              exact do_ hK (b := false) hw hf rfl rfl rfl hb14 rfl rfl
          intro ρ w a hw hG hf hd
          obtain ⟨o3, o5⟩ := hG
          obtain ⟨_, hf, rfl⟩ := got (hd 2 (by decide)) hf
          obtain ⟨_, hf, rfl⟩ := got (hd 6 (by decide)) hf
          obtain ⟨_, hf, rfl⟩ := got (hd 11 (by decide)) hf
          refine st_no (b := false) hf rfl rfl rfl hb14 rfl (by decide) fun a hf => ?_
          refine s_ hf (r_pick (b := false) hf rfl hb14 rfl) fun a hf => ?_
          refine c_nil ⟨rfl, ?_⟩
          obtain rfl := Option.some.inj hF
          exact ⟨_, hw, hf.sub ⟨rfl, rfl, rfl, rfl, rfl, trivial⟩, o3, o5⟩
        obtain ⟨hc15, hF⟩ := of_guard hF
        obtain ⟨hc17, hF⟩ := of_guard hF
        replace hf : Fr 60 a [(4, u3), (6, vv8), (7, vI s6), (8, vI s11)] := hf.sub ⟨rfl, rfl, rfl, rfl, trivial⟩
        refine c_drawL (h := 12) mixed (by kernel_rfl) (by kernel_rfl) (fun ρ w => Gd fI64 2 36 ρ w w0.heap.size 3 u3 f3 (List.range x1.1.length) x1.1 ∧ Rf f3 36 ρ w w0.heap.size 5 vv8 s7 x1.1.length) ?_ [fun ρ w v => vI s11 = v, fun ρ w v => .bool (decide (0 < s11)) = v, fun ρ w v => .bool (decide (0 < s11)) = v, fun ρ w v => u3 = v, fun ρ w v => vI s6 = v, fun ρ w v => ∃ ad16, .pointer (some (ad16.add (s6.toNat * 1))) = v ∧ (gl 0 (List.range x1.1.length) s6) < x1.1.length ∧ Ce ρ w 3 u3 ((List.range x1.1.length).length) ad16 (s6.toNat * 1) ([(f3 (gl 0 (List.range x1.1.length) s6)).1]), fun ρ w v => (f3 (gl 0 (List.range x1.1.length) s6)).1 = v ∧ (gl 0 (List.range x1.1.length) s6) < x1.1.length, fun ρ w v => vv8 = v, fun ρ w v => vI s11 = v, fun ρ w v => vI (w64 (s11 - 1)) = v, fun ρ w v => ∃ ad18, .pointer (some (ad18.add ((w64 (s11 - 1)).toNat * 1))) = v ∧ (gl 0 s7 (w64 (s11 - 1))) < x1.1.length ∧ Ce ρ w 5 vv8 s7.length ad18 ((w64 (s11 - 1)).toNat * 1) ([(f3 (gl 0 s7 (w64 (s11 - 1)))).1]), fun ρ w v => (f3 (gl 0 s7 (w64 (s11 - 1)))).1 = v ∧ (gl 0 s7 (w64 (s11 - 1))) < x1.1.length] ?_ hw ⟨o3, o5⟩ hf ?_ ?_
        · intro ρ w ρ' w' hE hG
          obtain ⟨o3, o5⟩ := hG
          exact ⟨o3.ext hE, o5.ext hE⟩
        · exact LastsL.cons (fun _ _ _ _ _ _ h => h) <| LastsL.cons (fun _ _ _ _ _ _ h => h) <| LastsL.cons (fun _ _ _ _ _ _ h => h) <| LastsL.cons (fun _ _ _ _ _ _ h => h) <| LastsL.cons (fun _ _ _ _ _ _ h => h) <| LastsL.cons (fun _ _ _ _ _ hE h => by obtain ⟨ad16, h, hn16, hl16⟩ := h; exact ⟨_, h, hn16, hl16.ext hE⟩) <| LastsL.cons (fun _ _ _ _ _ hE h => by obtain ⟨h, hn16⟩ := h; exact ⟨h, hn16⟩) <| LastsL.cons (fun _ _ _ _ _ _ h => h) <| LastsL.cons (fun _ _ _ _ _ _ h => h) <| LastsL.cons (fun _ _ _ _ _ _ h => h) <| LastsL.cons (fun _ _ _ _ _ hE h => by obtain ⟨ad18, h, hn18, hl18⟩ := h; exact ⟨_, h, hn18, hl18.ext hE⟩) <| LastsL.cons (fun _ _ _ _ _ hE h => by obtain ⟨h, hn18⟩ := h; exact ⟨h, hn18⟩) <| LastsL.nil
        · refine StepsB.cons ?_ <| StepsB.cons ?_ <| StepsB.cons ?_ <| StepsB.cons ?_ <| StepsB.cons ?_ <| StepsB.cons ?_ <| StepsB.cons ?_ <| StepsB.cons ?_ <| StepsB.cons ?_ <| StepsB.cons ?_ <| StepsB.cons ?_ <| StepsB.cons ?_ <| StepsB.nil
          · intro ρ w a hw hG hf hd K hK
            obtain ⟨o3, o5⟩ := hG
            exact dv_ hK hw (wn rfl) (r_move hf rfl) rfl
          · intro ρ w a hw hG hf hd K hK
            obtain ⟨o3, o5⟩ := hG
            obtain ⟨_, hf, rfl⟩ := got (hd 0 (by kernel_rfl)) hf
            exact dv_ hK hw (wn rfl) (r_gtr hf rfl rfl) rfl
          · intro ρ w a hw hG hf hd K hK
            obtain ⟨o3, o5⟩ := hG
            obtain ⟨_, hf, rfl⟩ := got (hd 1 (by kernel_rfl)) hf
            exact dv_ hK hw (wn rfl) (r_move hf rfl) rfl
          · intro ρ w a hw hG hf hd K hK
            obtain ⟨o3, o5⟩ := hG
            obtain ⟨_, hf, rfl⟩ := got (hd 2 (by kernel_rfl)) hf
            exact dv_ hK hw (wg (b := true) hf rfl rfl rfl hb14) (r_move hf rfl) rfl
          · intro ρ w a hw hG hf hd K hK
            obtain ⟨o3, o5⟩ := hG
            obtain ⟨_, hf, rfl⟩ := got (hd 2 (by kernel_rfl)) hf
            exact dv_ hK hw (wg (b := true) hf rfl rfl rfl hb14) (r_move hf rfl) rfl
          · intro ρ w a hw hG hf hd K hK
            obtain ⟨o3, o5⟩ := hG
            obtain ⟨_, hf, rfl⟩ := got (hd 2 (by kernel_rfl)) hf
            obtain ⟨_, hf, rfl⟩ := got (hd 3 (by kernel_rfl)) hf
            obtain ⟨_, hf, rfl⟩ := got (hd 4 (by kernel_rfl)) hf
            obtain ⟨ad16, hl16⟩ := Ow.ce (d := fRef f3) o3.out 0 hc15.1 hc15.2
            have hn16 := o3.lt_gl hc15.1 hc15.2
            exact dv_ hK hw (wg (b := true) hf rfl rfl rfl hb14) (r_idx Try.underlying24 sz36 hf rfl hl16.at_ rfl hc15.1 hc15.2) (ex_ <| an_ rfl <| an_ hn16 <| hl16)
          · intro ρ w a hw hG hf hd K hK
            obtain ⟨o3, o5⟩ := hG
            obtain ⟨_, hf, rfl⟩ := got (hd 2 (by kernel_rfl)) hf
            obtain ⟨_, hf, ⟨ad16, rfl, hn16, hl16⟩⟩ := got (hd 5 (by kernel_rfl)) hf
            exact dv_ hK hw (wg (b := true) hf rfl rfl rfl hb14) (r_load_cell ty36 hf rfl hl16.co.cl) (an_ rfl <| hn16)
          · intro ρ w a hw hG hf hd K hK
            obtain ⟨o3, o5⟩ := hG
            obtain ⟨_, hf, rfl⟩ := got (hd 2 (by kernel_rfl)) hf
            exact dv_ hK hw (wg (b := true) hf rfl rfl rfl hb14) (r_move hf rfl) rfl
          · intro ρ w a hw hG hf hd K hK
            obtain ⟨o3, o5⟩ := hG
            obtain ⟨_, hf, rfl⟩ := got (hd 2 (by kernel_rfl)) hf
            exact dv_ hK hw (wg (b := true) hf rfl rfl rfl hb14) (r_move hf rfl) rfl
          · intro ρ w a hw hG hf hd K hK
            obtain ⟨o3, o5⟩ := hG
            obtain ⟨_, hf, rfl⟩ := got (hd 2 (by kernel_rfl)) hf
            obtain ⟨_, hf, rfl⟩ := got (hd 8 (by kernel_rfl)) hf
            exact dv_ hK hw (wg (b := true) hf rfl rfl rfl hb14) (r_sub hf rfl rfl) rfl
          · intro ρ w a hw hG hf hd K hK
            obtain ⟨o3, o5⟩ := hG
            obtain ⟨_, hf, rfl⟩ := got (hd 2 (by kernel_rfl)) hf
            obtain ⟨_, hf, rfl⟩ := got (hd 7 (by kernel_rfl)) hf
            obtain ⟨_, hf, rfl⟩ := got (hd 9 (by kernel_rfl)) hf
            obtain ⟨ad18, hl18⟩ := Ow.ce (d := fRef f3) o5.out 0 hc17.1 hc17.2
            have hn18 := o5.lt_gl hc17.1 hc17.2
            exact dv_ hK hw (wg (b := true) hf rfl rfl rfl hb14) (r_idx Try.underlying24 sz36 hf rfl hl18.at_ rfl hc17.1 hc17.2) (ex_ <| an_ rfl <| an_ hn18 <| hl18)
          · intro ρ w a hw hG hf hd K hK
            obtain ⟨o3, o5⟩ := hG
            obtain ⟨_, hf, rfl⟩ := got (hd 2 (by kernel_rfl)) hf
            obtain ⟨_, hf, ⟨ad18, rfl, hn18, hl18⟩⟩ := got (hd 10 (by kernel_rfl)) hf
            exact dv_ hK hw (wg (b := true) hf rfl rfl rfl hb14) (r_load_cell ty36 hf rfl hl18.co.cl) (an_ rfl <| hn18)
        intro ρ w a hw hG hf hd
        obtain ⟨o3, o5⟩ := hG
        obtain ⟨_, hf, rfl⟩ := got (hd 2 (by decide)) hf
        obtain ⟨_, hf, ⟨rfl, hn16⟩⟩ := got (hd 6 (by decide)) hf
        obtain ⟨_, hf, ⟨rfl, hn18⟩⟩ := got (hd 11 (by decide)) hf
        obtain ⟨x19, hx20, hF⟩ := of_bind hF
        refine st_gfn (b := true) 10 hw hf rfl rfl rfl hb14 rfl (by decide) (r_fn en82 hf rfl) (spec_l04Less_ok ((o3.rowAt hn16).ro) ((o3.rowAt hn18).ro) hx20) fun a v w ρ hf hw hE hN hΦ => ?_
        obtain rfl := hΦ
        replace o3 := o3.ext hE
        replace o5 := o5.ext hE
        refine s_ hf (r_pick (b := true) hf rfl hb14 rfl) fun a hf => ?_
        refine c_nil ⟨rfl, ?_⟩
        obtain rfl := Option.some.inj hF
        exact ⟨_, hw, hf.sub ⟨rfl, rfl, rfl, rfl, rfl, trivial⟩, o3, o5⟩
      rintro a w ⟨ρ, hw, hf, o3, o5⟩
      have hF := hG12
      refine n_then ?_
      rcases of_ite hF with ⟨hb21, hF⟩ | ⟨hb21, hF⟩
      rotate_left
      · refine c_iff hf rfl hb21 <| c_exit <| x_then ?_
        obtain rfl := Option.some.inj hF
        exact Rnd.stops ⟨_, hw, hf.sub ⟨rfl, rfl, rfl, rfl, trivial⟩, o3, o5⟩
      refine c_ift hf rfl hb21 <| c_skip <| n_then <| c_block <| c_region ?_
      refine s_ hf (r_move hf rfl) fun a hf => ?_
      refine s_ hf (r_sub hf rfl rfl) fun a hf => ?_
      refine s_ hf (r_assign hf rfl) fun a hf => ?_
      refine c_nil <| n_block ?_
      obtain rfl := Option.some.inj hF
      exact Rnd.goes ⟨_, hw, hf.sub ⟨rfl, rfl, rfl, rfl, trivial⟩, o3, o5⟩
    rintro s11 a w hs ⟨ρ, hw, hf, o3, o5⟩
    subst hs
    have hF := hG10
    dsimp only at hF
    refine x_block <| n_then <| c_seq ?_
    obtain ⟨hc22, hF⟩ := of_guard hF
    obtain ⟨hc24, hF⟩ := of_guard hF
    replace hf : Fr 60 a [(4, u3), (6, vv8), (7, vI s6), (8, vI s11)] := hf.sub ⟨rfl, rfl, rfl, rfl, trivial⟩
    refine c_drawL (h := 8) mixed (by kernel_rfl) (by kernel_rfl) (fun ρ w => Gd fI64 2 36 ρ w w0.heap.size 3 u3 f3 (List.range x1.1.length) x1.1 ∧ Rf f3 36 ρ w w0.heap.size 5 vv8 s7 x1.1.length) ?_ [fun ρ w v => u3 = v, fun ρ w v => vI s6 = v, fun ρ w v => ∃ ad23, .pointer (some (ad23.add (s6.toNat * 1))) = v ∧ (gl 0 (List.range x1.1.length) s6) < x1.1.length ∧ Ce ρ w 3 u3 ((List.range x1.1.length).length) ad23 (s6.toNat * 1) ([(f3 (gl 0 (List.range x1.1.length) s6)).1]), fun ρ w v => (f3 (gl 0 (List.range x1.1.length) s6)).1 = v ∧ (gl 0 (List.range x1.1.length) s6) < x1.1.length, fun ρ w v => ∃ v13, v13 = v ∧ Rf f3 36 ρ w w0.heap.size 13 v13 ([(gl 0 (List.range x1.1.length) s6)]) x1.1.length, fun ρ w v => vv8 = v, fun ρ w v => vI s11 = v, fun ρ w v => (cutV vv8 s11.toNat (s7.length : Int).toNat 1) = v ∧ Ro (kf (fRef f3)) w (cutV vv8 s11.toNat (s7.length : Int).toNat 1) ((s7.take (s7.length : Int).toNat).drop s11.toNat)] ?_ hw ⟨o3, o5⟩ hf ?_ ?_
    · intro ρ w ρ' w' hE hG
      obtain ⟨o3, o5⟩ := hG
      exact ⟨o3.ext hE, o5.ext hE⟩
    · exact LastsL.cons (fun _ _ _ _ _ _ h => h) <| LastsL.cons (fun _ _ _ _ _ _ h => h) <| LastsL.cons (fun _ _ _ _ _ hE h => by obtain ⟨ad23, h, hn23, hl23⟩ := h; exact ⟨_, h, hn23, hl23.ext hE⟩) <| LastsL.cons (fun _ _ _ _ _ hE h => by obtain ⟨h, hn23⟩ := h; exact ⟨h, hn23⟩) <| LastsL.cons (fun _ _ _ _ _ hE h => by obtain ⟨v13, h, o13⟩ := h; exact ⟨_, h, o13.ext hE⟩) <| LastsL.cons (fun _ _ _ _ _ _ h => h) <| LastsL.cons (fun _ _ _ _ _ _ h => h) <| LastsL.cons (fun _ _ _ _ _ hE h => by obtain ⟨h, o14⟩ := h; exact ⟨h, o14.ext hE⟩) <| LastsL.nil
    · refine StepsB.cons ?_ <| StepsB.cons ?_ <| StepsB.cons ?_ <| StepsB.cons ?_ <| StepsB.cons ?_ <| StepsB.cons ?_ <| StepsB.cons ?_ <| StepsB.cons ?_ <| StepsB.nil
      · intro ρ w a hw hG hf hd K hK
        obtain ⟨o3, o5⟩ := hG
        exact dv_ hK hw (wn rfl) (r_move hf rfl) rfl
      · intro ρ w a hw hG hf hd K hK
        obtain ⟨o3, o5⟩ := hG
        exact dv_ hK hw (wn rfl) (r_move hf rfl) rfl
      · intro ρ w a hw hG hf hd K hK
        obtain ⟨o3, o5⟩ := hG
        obtain ⟨_, hf, rfl⟩ := got (hd 0 (by kernel_rfl)) hf
        obtain ⟨_, hf, rfl⟩ := got (hd 1 (by kernel_rfl)) hf
        obtain ⟨ad23, hl23⟩ := Ow.ce (d := fRef f3) o3.out 0 hc22.1 hc22.2
        have hn23 := o3.lt_gl hc22.1 hc22.2
        exact dv_ hK hw (wn rfl) (r_idx Try.underlying24 sz36 hf rfl hl23.at_ rfl hc22.1 hc22.2) (ex_ <| an_ rfl <| an_ hn23 <| hl23)
      · intro ρ w a hw hG hf hd K hK
        obtain ⟨o3, o5⟩ := hG
        obtain ⟨_, hf, ⟨ad23, rfl, hn23, hl23⟩⟩ := got (hd 2 (by kernel_rfl)) hf
        exact dv_ hK hw (wn rfl) (r_load_cell ty36 hf rfl hl23.co.cl) (an_ rfl <| hn23)
      · intro ρ w a hw hG hf hd K hK
        obtain ⟨o3, o5⟩ := hG
        obtain ⟨_, hf, ⟨rfl, hn23⟩⟩ := got (hd 3 (by kernel_rfl)) hf
        refine dx_ hK hw (wn rfl) (r_lit_rf 13 Try.underlying24 el36 hw hf rfl (o3.rowAt hn23).ro.cells1 hn23) fun v13 w' hΦ => ?_
        obtain ⟨ρ, hw, hE, o13⟩ := hΦ
        exact ⟨_, hw, hE, ex_ <| an_ rfl <| o13⟩
      · intro ρ w a hw hG hf hd K hK
        obtain ⟨o3, o5⟩ := hG
        exact dv_ hK hw (wn rfl) (r_move hf rfl) rfl
      · intro ρ w a hw hG hf hd K hK
        obtain ⟨o3, o5⟩ := hG
        exact dv_ hK hw (wn rfl) (r_move hf rfl) rfl
      · intro ρ w a hw hG hf hd K hK
        obtain ⟨o3, o5⟩ := hG
        obtain ⟨_, hf, rfl⟩ := got (hd 5 (by kernel_rfl)) hf
        obtain ⟨_, hf, rfl⟩ := got (hd 6 (by kernel_rfl)) hf
        have o14 : Ro (kf (fRef f3)) w (cutV vv8 s11.toNat (s7.length : Int).toNat 1) ((s7.take (s7.length : Int).toNat).drop s11.toNat) := ro_cutV o5.out.ro hc24.1 hc24.2 (Int.le_refl _)
        exact dv_ hK hw (wn rfl) (r_cut_v (d := kf (fRef f3)) (lo := s11) (hi := (s7.length : Int)) Try.underlying24 sz36 rfl o5.out.ro hf rfl (.inr ⟨_, rfl, rfl⟩) (.inl ⟨rfl, rfl⟩) hc24.1 hc24.2 (Int.le_refl _)) (an_ rfl <| o14)
    intro ρ w a hw hG hf hd
    obtain ⟨o3, o5⟩ := hG
    obtain ⟨_, hf, ⟨v13, rfl, o13⟩⟩ := got (hd 4 (by decide)) hf
    obtain ⟨_, hf, ⟨rfl, o14⟩⟩ := got (hd 7 (by decide)) hf
    obtain ⟨hc25, hF⟩ := of_guard hF
    have hn26 : ∀ r, r ∈ ([(gl 0 (List.range x1.1.length) s6)] ++ ((s7.take (s7.length : Int).toNat).drop s11.toNat)) → r < x1.1.length := mem_lt_app o13.lt (mem_lt_cut o5.lt _ _)
    refine sx_ hf (r_append (d := fRef f3) Try.underlying24 el36 hw (by decide) o13.out o14 hc25 hf rfl rfl) fun a va26 w hf hΦ => ?_
    obtain ⟨ρ, hw, hA, o13⟩ := hΦ
    replace o3 := o3.adv hA (by decide) (fun _ => by unfold lab; omega)
    replace o5 := o5.adv hA (by decide)
    replace o13 : Rf f3 36 ρ w w0.heap.size 13 va26 ([(gl 0 (List.range x1.1.length) s6)] ++ ((s7.take (s7.length : Int).toNat).drop s11.toNat)) x1.1.length := ⟨o13, hn26⟩
    refine s_ hf (r_assign hf rfl) fun a hf => ?_
    refine c_nt <| c_region ?_
    refine sx_ hf (r_none_rf f3 x1.1.length 15 Try.underlying24 el36 hw) fun a v15 w hf hΦ => ?_
    obtain ⟨ρ, hw, hE, o15⟩ := hΦ
    replace o3 := o3.ext hE
    replace o5 := o5.ext hE
    replace o13 := o13.ext hE
    refine s_ hf (r_move hf rfl) fun a hf => ?_
    refine s_ hf (r_move hf rfl) fun a hf => ?_
    obtain ⟨hc27, hF⟩ := of_guard hF
    have o16 : Ro (kf (fRef f3)) w (cutV vv8 (0 : Int).toNat s11.toNat 1) ((s7.take s11.toNat).drop (0 : Int).toNat) := ro_cutV o5.out.ro (Int.le_refl 0) hc27.1 hc27.2
    refine s_ hf (r_cut_v (d := kf (fRef f3)) (lo := 0) (hi := s11) Try.underlying24 sz36 rfl o5.out.ro hf rfl (.inl ⟨rfl, rfl⟩) (.inr ⟨_, rfl, rfl⟩) (Int.le_refl 0) hc27.1 hc27.2) fun a hf => ?_
    obtain ⟨hc28, hF⟩ := of_guard hF
    have hn29 : ∀ r, r ∈ (([] : List Nat) ++ ((s7.take s11.toNat).drop (0 : Int).toNat)) → r < x1.1.length := mem_lt_app o15.lt (mem_lt_cut o5.lt _ _)
    refine sx_ hf (r_append (d := fRef f3) Try.underlying24 el36 hw (by decide) o15.out o16 hc28 hf rfl rfl) fun a va29 w hf hΦ => ?_
    obtain ⟨ρ, hw, hA, o15⟩ := hΦ
    replace o3 := o3.adv hA (by decide) (fun _ => by unfold lab; omega)
    replace o5 := o5.adv hA (by decide)
    replace o13 := o13.adv hA (by decide)
    replace o15 : Rf f3 36 ρ w w0.heap.size 15 va29 (([] : List Nat) ++ ((s7.take s11.toNat).drop (0 : Int).toNat)) x1.1.length := ⟨o15, hn29⟩
    refine s_ hf (r_move hf rfl) fun a hf => ?_
    obtain ⟨hc30, hF⟩ := of_guard hF
    have hn31 : ∀ r, r ∈ ((([] : List Nat) ++ ((s7.take s11.toNat).drop (0 : Int).toNat)) ++ ([(gl 0 (List.range x1.1.length) s6)] ++ ((s7.take (s7.length : Int).toNat).drop s11.toNat))) → r < x1.1.length := mem_lt_app o15.lt o13.lt
    refine sx_ hf (r_append (d := fRef f3) Try.underlying24 el36 hw (by decide) o15.out o13.out.ro hc30 hf rfl rfl) fun a va31 w hf hΦ => ?_
    obtain ⟨ρ, hw, hA, o15⟩ := hΦ
    replace o3 := o3.adv hA (by decide) (fun _ => by unfold lab; omega)
    replace o5 := o5.adv hA (by decide)
    replace o13 := o13.adv hA (by decide)
    replace o15 : Rf f3 36 ρ w w0.heap.size 15 va31 ((([] : List Nat) ++ ((s7.take s11.toNat).drop (0 : Int).toNat)) ++ ([(gl 0 (List.range x1.1.length) s6)] ++ ((s7.take (s7.length : Int).toNat).drop s11.toNat))) x1.1.length := ⟨o15, hn31⟩
    refine s_ hf (r_assign hf rfl) fun a hf => ?_
    refine c_nil <| n_block <| n_then <| c_region ?_
    refine s_ hf (r_move hf rfl) fun a hf => ?_
    refine s_ hf (r_add hf rfl rfl) fun a hf => ?_
    refine s_ hf (r_assign hf rfl) fun a hf => ?_
    refine c_nil ?_
    obtain rfl := Option.some.inj hF
    replace o3 := o3.tr (Tr.relab (j := 15) (b := 5) (by decide)) (fun _ => Tr.relab (by unfold lab; omega))
    replace o15 := o15.relab 5
    replace hw := hw.relab (j := 15) (by decide) 5
    exact Rnd.goes ⟨_, _, hw, hf.sub ⟨rfl, rfl, rfl, trivial⟩, o3, o15⟩
  rintro ⟨s6, s7⟩ a w hs ⟨ρ, vv8, hw, hf, o3, o5⟩
  subst hs
  have hF := hG5
  dsimp only at hF
  refine x_block <| n_then <| c_seq <| c_region ?_
  refine s_ hf (r_move hf rfl) fun a hf => ?_
  refine s_ hf (r_assign hf rfl) fun a hf => ?_
  refine s_ hf (r_assign hf rfl) fun a hf => ?_
  refine c_nt <| c_retc ?_
  obtain rfl := Option.some.inj hF
  refine c_ret hf (res_tt Try.results35 hf rfl rfl) ?_
  exact ⟨_, rfl, hw.below, ⟨_, rfl, o5.fresh o3 (fun r => by unfold lab; omega)⟩⟩
/-! f175 -/
noncomputable def cmp_isNaN_175 (a0 : Int) : Option Bool :=
  some (decide (a0 ≠ a0))
theorem cmp_isNaN_175_ok {w0 : World} {a0 : Int}   {r : Bool} (hF : cmp_isNaN_175 a0 = some r) :
    Calls Try.prog 175 [vI a0].toArray w0 fun e w => ∃ v, e = .returned v ∧ Below w0.heap.size w0 w ∧ .bool r = v := by
  refine calls_of (k := 6) Try.func175 rfl rfl (Nat.le_of_ble_eq_true rfl) fun a hf => ?_
  replace hf : Fr 6 a [(0, vI a0)] := hf
  refine c_start fun w ρ hw => ?_
  unfold cmp_isNaN_175 at hF
  refine c_seq <| c_region ?_
  refine s_ hf (r_assign hf rfl) fun a hf => ?_
  refine c_nt <| c_seq <| c_region ?_
  refine s_ hf (r_move hf rfl) fun a hf => ?_
  refine s_ hf (r_move hf rfl) fun a hf => ?_
  refine s_ hf (r_neq hf rfl rfl) fun a hf => ?_
  refine s_ hf (r_assign hf rfl) fun a hf => ?_
  refine c_nt <| c_retc ?_
  obtain rfl := Option.some.inj hF
  refine c_ret hf (res_tmp Try.results175 hf rfl) ?_
  exact ⟨_, rfl, hw.below, rfl⟩
/-! f134 -/
noncomputable def cmp_Compare_134 (a0 : Int) (a1 : Int) : Option Int :=
  (cmp_isNaN_175 a0).bind fun x1 => (cmp_isNaN_175 a1).bind fun x3 => if x1 = true then (if x3 = true then (some (0)) else (some ((-1)))) else (if x3 = true then (some (1)) else (if (decide (a0 < a1)) = true then (some ((-1))) else (if (decide (a1 < a0)) = true then (some (1)) else (some (0)))))
theorem cmp_Compare_134_ok {w0 : World} {a0 : Int} {a1 : Int}   {r : Int} (hF : cmp_Compare_134 a0 a1 = some r) :
    Calls Try.prog 134 [vI a0, vI a1].toArray w0 fun e w => ∃ v, e = .returned v ∧ Below w0.heap.size w0 w ∧ .int .i64 r = v := by
  refine calls_of (k := 20) Try.func134 rfl rfl (Nat.le_of_ble_eq_true rfl) fun a hf => ?_
  replace hf : Fr 20 a [(0, vI a0), (1, vI a1)] := hf
  refine c_start fun w ρ hw => ?_
  unfold cmp_Compare_134 at hF
  refine c_seq <| c_region ?_
  refine s_ hf (r_assign hf rfl) fun a hf => ?_
  refine c_nt <| c_seq <| c_region ?_
  refine s_ hf (r_move hf rfl) fun a hf => ?_
  obtain ⟨x1, hx2, hF⟩ := of_bind hF
  refine st_fn 1 hw hf rfl rfl (by decide) (r_fn en175 hf rfl) (cmp_isNaN_175_ok  hx2) fun a v w ρ hf hw hE hN hΦ => ?_
  obtain rfl := hΦ
  refine s_ hf (r_assign hf rfl) fun a hf => ?_
  refine c_nt <| c_seq <| c_region ?_
  refine s_ hf (r_move hf rfl) fun a hf => ?_
  obtain ⟨x3, hx4, hF⟩ := of_bind hF
  refine st_fn 2 hw hf rfl rfl (by decide) (r_fn en175 hf rfl) (cmp_isNaN_175_ok  hx4) fun a v w ρ hf hw hE hN hΦ => ?_
  obtain rfl := hΦ
  refine s_ hf (r_assign hf rfl) fun a hf => ?_
  refine c_nt <| c_seq <| c_seq <| c_region ?_
  refine s_ hf (r_move hf rfl) fun a hf => ?_
  refine c_nt ?_
  rcases of_ite hF with ⟨hb5, hF⟩ | ⟨hb5, hF⟩
  · refine c_ift hf rfl hb5 <| c_seq <| c_seq <| c_region ?_
    refine s_ hf (r_move hf rfl) fun a hf => ?_
    refine c_nt ?_
    rcases of_ite hF with ⟨hb6, hF⟩ | ⟨hb6, hF⟩
    · refine c_ift hf rfl hb6 <| c_seq <| c_region ?_
      refine s_ hf (r_assign hf rfl) fun a hf => ?_
      refine c_nt <| c_retc ?_
      obtain rfl := Option.some.inj hF
      refine r_then <| r_then <| c_ret hf (res_tmp Try.results134 hf rfl) ?_
      exact ⟨_, rfl, hw.below, rfl⟩
    refine c_iff hf rfl hb6 <| c_skip <| n_then <| c_seq <| c_region ?_
    refine s_ hf (r_assign hf rfl) fun a hf => ?_
    refine c_nt <| c_retc ?_
    obtain rfl := Option.some.inj hF
    refine r_then <| c_ret hf (res_tmp Try.results134 hf rfl) ?_
    exact ⟨_, rfl, hw.below, rfl⟩
  refine c_iff hf rfl hb5 <| c_skip <| n_then <| c_seq <| c_seq <| c_region ?_
  refine s_ hf (r_move hf rfl) fun a hf => ?_
  refine c_nt ?_
  rcases of_ite hF with ⟨hb7, hF⟩ | ⟨hb7, hF⟩
  · refine c_ift hf rfl hb7 <| c_seq <| c_region ?_
    refine s_ hf (r_assign hf rfl) fun a hf => ?_
    refine c_nt <| c_retc ?_
    obtain rfl := Option.some.inj hF
    refine r_then <| c_ret hf (res_tmp Try.results134 hf rfl) ?_
    exact ⟨_, rfl, hw.below, rfl⟩
  refine c_iff hf rfl hb7 <| c_skip <| n_then <| c_seq <| c_seq <| c_region ?_
  refine s_ hf (r_move hf rfl) fun a hf => ?_
  refine s_ hf (r_move hf rfl) fun a hf => ?_
  refine s_ hf (r_lss hf rfl rfl) fun a hf => ?_
  refine c_nt ?_
  rcases of_ite hF with ⟨hb8, hF⟩ | ⟨hb8, hF⟩
  · refine c_ift hf rfl hb8 <| c_seq <| c_region ?_
    refine s_ hf (r_assign hf rfl) fun a hf => ?_
    refine c_nt <| c_retc ?_
    obtain rfl := Option.some.inj hF
    refine r_then <| c_ret hf (res_tmp Try.results134 hf rfl) ?_
    exact ⟨_, rfl, hw.below, rfl⟩
  refine c_iff hf rfl hb8 <| c_skip <| n_then <| c_seq <| c_seq <| c_region ?_
  refine s_ hf (r_move hf rfl) fun a hf => ?_
  refine s_ hf (r_move hf rfl) fun a hf => ?_
  refine s_ hf (r_gtr hf rfl rfl) fun a hf => ?_
  refine c_nt ?_
  rcases of_ite hF with ⟨hb9, hF⟩ | ⟨hb9, hF⟩
  · refine c_ift hf rfl hb9 <| c_seq <| c_region ?_
    refine s_ hf (r_assign hf rfl) fun a hf => ?_
    refine c_nt <| c_retc ?_
    obtain rfl := Option.some.inj hF
    refine r_then <| c_ret hf (res_tmp Try.results134 hf rfl) ?_
    exact ⟨_, rfl, hw.below, rfl⟩
  refine c_iff hf rfl hb9 <| c_skip <| n_then <| c_seq <| c_region ?_
  refine s_ hf (r_assign hf rfl) fun a hf => ?_
  refine c_nt <| c_retc ?_
  obtain rfl := Option.some.inj hF
  refine c_ret hf (res_tmp Try.results134 hf rfl) ?_
  exact ⟨_, rfl, hw.below, rfl⟩
/-! f87 -/
noncomputable def slices_Compare_87_l1 (a0 : List Int) (a1 : List Int) (s2 : Int) : Option (LR Int Int) :=
  if (decide (s2 < (a0.length : Int))) = true then (if 0 ≤ s2 ∧ s2 < (a0.length : Int) then (if (decide ((a1.length : Int) ≤ s2)) = true then (some (.ret 1)) else (if 0 ≤ s2 ∧ s2 < (a1.length : Int) then ((cmp_Compare_134 (gl 0 a0 s2) (gl 0 a1 s2)).bind fun x9 => if (decide (x9 ≠ 0)) = true then (some (.ret x9)) else (some (.next (w64 (s2 + 1))))) else none)) else none) else (some (.stop s2))
noncomputable def slices_Compare_87 (a0 : List Int) (a1 : List Int) : Option Int :=
  (iter (fun s => slices_Compare_87_l1 a0 a1 s) 0).bind fun o => match o with | .stop s2 => (if (decide ((a0.length : Int) < (a1.length : Int))) = true then (some ((-1))) else (some (0))) | .ret r => some r | .next _ => none
theorem slices_Compare_87_ok {w0 : World} {a0 : List Int} {a1 : List Int} {va0 : Value} {va1 : Value} (h0 : Ro (kf fI64) w0 va0 a0) (h1 : Ro (kf fI64) w0 va1 a1) {r : Int} (hF : slices_Compare_87 a0 a1 = some r) :
    Calls Try.prog 87 [va0, va1].toArray w0 fun e w => ∃ v, e = .returned v ∧ Below w0.heap.size w0 w ∧ .int .i64 r = v := by
  refine calls_of (k := 36) Try.func87 rfl rfl (Nat.le_of_ble_eq_true rfl) fun a hf => ?_
  replace hf : Fr 36 a [(0, va0), (1, va1)] := hf
  refine c_start fun w ρ hw => ?_
  unfold slices_Compare_87 at hF
  refine c_seq <| c_region ?_
  refine s_ hf (r_assign hf rfl) fun a hf => ?_
  refine c_nt <| c_seq <| c_seq <| c_region ?_
  refine s_ hf (r_move hf rfl) fun a hf => ?_
  refine s_ hf (r_len Try.underlying36 (h0.now hw) hf rfl) fun a hf => ?_
  refine s_ hf (r_move hf rfl) fun a hf => ?_
  refine c_nt ?_
  obtain ⟨ol1, ho1, hG1⟩ := of_bind hF
  clear hF
  refine c_block (c_loop (id := 0) (fun s => slices_Compare_87_l1 a0 a1 s) (fun (s2 : Int) a w => ∃ ρ, Wd w0 ρ w ∧ Fr 36 a [(0, va0), (1, va1), (9, va0), (10, vI (a0.length : Int)), (11, vI s2)]) (fun (s2 : Int) a w => ∃ ρ, Wd w0 ρ w ∧ Fr 36 a [(0, va0), (1, va1)]) ho1 ⟨_, hw, hf.sub ⟨rfl, rfl, rfl, rfl, rfl, trivial⟩⟩ ?_ ?_)
  · rintro s2 lr a w ⟨ρ, hw, hf⟩ hF
    replace hF : slices_Compare_87_l1 a0 a1 s2 = some lr := hF
    unfold slices_Compare_87_l1 at hF
    refine c_seq <| c_region ?_
    refine s_ hf (r_lss hf rfl rfl) fun a hf => ?_
    refine c_nt <| c_seq ?_
    rcases of_ite hF with ⟨hb3, hF⟩ | ⟨hb3, hF⟩
    rotate_left
    · refine c_iff hf rfl hb3 <| c_exit <| x_then ?_
      obtain rfl := Option.some.inj hF
      exact Rnd.stops ⟨_, hw, hf.sub ⟨rfl, rfl, trivial⟩⟩
    refine c_ift hf rfl hb3 <| c_skip <| n_then <| c_seq <| c_block <| c_seq <| c_region ?_
    refine s_ hf (r_move hf rfl) fun a hf => ?_
    obtain ⟨hc4, hF⟩ := of_guard hF
    obtain ⟨ad5, c5, he5, hl5⟩ := Ro.el fI64 h0 0 hc4.1 hc4.2
    refine s_ hf (r_idx Try.underlying36 sz2 hf rfl ⟨_, he5⟩ rfl hc4.1 hc4.2) fun a hf => ?_
    refine s_ hf (r_load_cell ty2 hf rfl (hl5.below hw.below)) fun a hf => ?_
    refine s_ hf (r_assign hf rfl) fun a hf => ?_
    refine s_ hf (r_assign hf rfl) fun a hf => ?_
    refine c_nt <| c_seq <| c_seq <| c_region ?_
    refine s_ hf (r_move hf rfl) fun a hf => ?_
    refine s_ hf (r_move hf rfl) fun a hf => ?_
    refine s_ hf (r_len Try.underlying36 (h1.now hw) hf rfl) fun a hf => ?_
    refine s_ hf (r_geq hf rfl rfl) fun a hf => ?_
    refine c_nt ?_
    rcases of_ite hF with ⟨hb6, hF⟩ | ⟨hb6, hF⟩
    · refine c_ift hf rfl hb6 <| c_seq <| c_region ?_
      refine s_ hf (r_assign hf rfl) fun a hf => ?_
      refine c_nt <| c_retc ?_
      obtain rfl := Option.some.inj hF
      refine r_then <| r_block <| r_then ?_
      refine Rnd.rets fun ho => ?_
      subst ho
      have hF := hG1
      dsimp only at hF
      obtain rfl := Option.some.inj hF
      refine r_block <| r_then <| c_ret hf (res_tmp Try.results87 hf rfl) ?_
      exact ⟨_, rfl, hw.below, rfl⟩
    refine c_iff hf rfl hb6 <| c_skip <| n_then <| c_seq <| c_region ?_
    refine s_ hf (r_move hf rfl) fun a hf => ?_
    refine s_ hf (r_move hf rfl) fun a hf => ?_
    obtain ⟨hc7, hF⟩ := of_guard hF
    obtain ⟨ad8, c8, he8, hl8⟩ := Ro.el fI64 h1 0 hc7.1 hc7.2
    refine s_ hf (r_idx Try.underlying36 sz2 hf rfl ⟨_, he8⟩ rfl hc7.1 hc7.2) fun a hf => ?_
    refine s_ hf (r_load_cell ty2 hf rfl (hl8.below hw.below)) fun a hf => ?_
    refine s_ hf (r_assign hf rfl) fun a hf => ?_
    refine c_nt <| c_seq <| c_region ?_
    refine s_ hf (r_move hf rfl) fun a hf => ?_
    refine s_ hf (r_move hf rfl) fun a hf => ?_
    obtain ⟨x9, hx10, hF⟩ := of_bind hF
    refine st_fn 1 hw hf rfl rfl (by decide) (r_fn en134 hf rfl) (cmp_Compare_134_ok  hx10) fun a v w ρ hf hw hE hN hΦ => ?_
    obtain rfl := hΦ
    refine s_ hf (r_assign hf rfl) fun a hf => ?_
    refine c_nt <| c_seq <| c_region ?_
    refine s_ hf (r_move hf rfl) fun a hf => ?_
    refine s_ hf (r_neq hf rfl rfl) fun a hf => ?_
    refine c_nt ?_
    rcases of_ite hF with ⟨hb11, hF⟩ | ⟨hb11, hF⟩
    rotate_left
    · refine c_iff hf rfl hb11 <| c_skip <| n_block <| n_then <| c_region ?_
      refine s_ hf (r_add hf rfl rfl) fun a hf => ?_
      refine s_ hf (r_move hf rfl) fun a hf => ?_
      refine c_nil ?_
      obtain rfl := Option.some.inj hF
      exact Rnd.goes ⟨_, hw, hf.sub ⟨rfl, rfl, rfl, rfl, rfl, trivial⟩⟩
    refine c_ift hf rfl hb11 <| c_seq <| c_region ?_
    refine s_ hf (r_move hf rfl) fun a hf => ?_
    refine s_ hf (r_assign hf rfl) fun a hf => ?_
    refine c_nt <| c_retc ?_
    obtain rfl := Option.some.inj hF
    refine r_block <| r_then ?_
    refine Rnd.rets fun ho => ?_
    subst ho
    have hF := hG1
    dsimp only at hF
    obtain rfl := Option.some.inj hF
    refine r_block <| r_then <| c_ret hf (res_tmp Try.results87 hf rfl) ?_
    exact ⟨_, rfl, hw.below, rfl⟩
  rintro s2 a w hs ⟨ρ, hw, hf⟩
  subst hs
  have hF := hG1
  dsimp only at hF
  refine x_block <| n_then <| c_seq <| c_seq <| c_region ?_
  refine s_ hf (r_move hf rfl) fun a hf => ?_
  refine s_ hf (r_len Try.underlying36 (h0.now hw) hf rfl) fun a hf => ?_
  refine s_ hf (r_move hf rfl) fun a hf => ?_
  refine s_ hf (r_len Try.underlying36 (h1.now hw) hf rfl) fun a hf => ?_
  refine s_ hf (r_lss hf rfl rfl) fun a hf => ?_
  refine c_nt ?_
  rcases of_ite hF with ⟨hb12, hF⟩ | ⟨hb12, hF⟩
  · refine c_ift hf rfl hb12 <| c_seq <| c_region ?_
    refine s_ hf (r_assign hf rfl) fun a hf => ?_
    refine c_nt <| c_retc ?_
    obtain rfl := Option.some.inj hF
    refine r_then <| c_ret hf (res_tmp Try.results87 hf rfl) ?_
    exact ⟨_, rfl, hw.below, rfl⟩
  refine c_iff hf rfl hb12 <| c_skip <| n_then <| c_seq <| c_region ?_
  refine s_ hf (r_assign hf rfl) fun a hf => ?_
  refine c_nt <| c_retc ?_
  obtain rfl := Option.some.inj hF
  refine c_ret hf (res_tmp Try.results87 hf rfl) ?_
  exact ⟨_, rfl, hw.below, rfl⟩
/-! f86s87 -/
def sort86_ren : Go.Shelf.Ren := ⟨fun | 6 => 86 | 15 => 133 | 14 => 132 | 28 => 173 | 29 => 174 | 20 => 165 | 21 => 166 | 22 => 167 | 23 => 168 | 24 => 169 | 25 => 170 | 26 => 171 | 27 => 172 | 46 => 188 | 47 => 189 | 48 => 190 | 49 => 191 | 50 => 192 | 57 => 197 | n => n, fun | 22 => 24 | 24 => 36 | 25 => 93 | 3 => 3 | 39 => 113 | 0 => 0 | 53 => 168 | 55 => 110 | 4 => 4 | 46 => 161 | 45 => 160 | 50 => 165 | 5 => 5 | 9 => 9 | 66 => 177 | 70 => 181 | 76 => 187 | 77 => 188 | n => n, fun n => n⟩
theorem sort86 : SlLaysF.n6 Try.prog sort86_ren where
  mixed := by kernel_rfl
  f6 := ⟨"slices.SortFunc[[][]int64,[]int64]", by decide, Try.func86.trans (congrArg some (by kernel_rfl))⟩
  f14 := ⟨"slices.pdqsortCmpFunc[[]int64]", by decide, Try.func132.trans (congrArg some (by kernel_rfl))⟩
  f15 := Try.func133.trans (congrArg some (by kernel_rfl))
  f20 := ⟨"slices.insertionSortCmpFunc[[]int64]", by decide, Try.func165.trans (congrArg some (by kernel_rfl))⟩
  f21 := ⟨"slices.heapSortCmpFunc[[]int64]", by decide, Try.func166.trans (congrArg some (by kernel_rfl))⟩
  f22 := ⟨"slices.breakPatternsCmpFunc[[]int64]", by decide, Try.func167.trans (congrArg some (by kernel_rfl))⟩
  f23 := ⟨"slices.choosePivotCmpFunc[[]int64]", by decide, Try.func168.trans (congrArg some (by kernel_rfl))⟩
  f24 := ⟨"slices.reverseRangeCmpFunc[[]int64]", by decide, Try.func169.trans (congrArg some (by kernel_rfl))⟩
  f25 := ⟨"slices.partialInsertionSortCmpFunc[[]int64]", by decide, Try.func170.trans (congrArg some (by kernel_rfl))⟩
  f26 := ⟨"slices.partitionEqualCmpFunc[[]int64]", by decide, Try.func171.trans (congrArg some (by kernel_rfl))⟩
  f27 := ⟨"slices.partitionCmpFunc[[]int64]", by decide, Try.func172.trans (congrArg some (by kernel_rfl))⟩
  f28 := Try.func173.trans (congrArg some (by kernel_rfl))
  f29 := Try.func174.trans (congrArg some (by kernel_rfl))
  f46 := ⟨"slices.siftDownCmpFunc[[]int64]", by decide, Try.func188.trans (congrArg some (by kernel_rfl))⟩
  f47 := Try.func189.trans (congrArg some (by kernel_rfl))
  f48 := Try.func190.trans (congrArg some (by kernel_rfl))
  f49 := ⟨"slices.medianAdjacentCmpFunc[[]int64]", by decide, Try.func191.trans (congrArg some (by kernel_rfl))⟩
  f50 := ⟨"slices.medianCmpFunc[[]int64]", by decide, Try.func192.trans (congrArg some (by kernel_rfl))⟩
  f57 := ⟨"slices.order2CmpFunc[[]int64]", by decide, Try.func197.trans (congrArg some (by kernel_rfl))⟩
  t0 := Try.underlying0
  a0 := Try.isAgg0
  z0 := Try.sizeOf0
  v0 := Try.zeroValue0
  t3 := Try.underlying3
  a3 := Try.isAgg3
  z3 := Try.sizeOf3
  v3 := Try.zeroValue3
  t4 := Try.underlying4
  a4 := Try.isAgg4
  z4 := Try.sizeOf4
  v4 := Try.zeroValue4
  t5 := Try.underlying5
  a5 := Try.isAgg5
  z5 := Try.sizeOf5
  v5 := Try.zeroValue5
  t9 := Try.underlying9
  a9 := Try.isAgg9
  z9 := Try.sizeOf9
  v9 := Try.zeroValue9
  t22 := Try.underlying24
  a22 := Try.isAgg24
  z22 := Try.sizeOf24
  v22 := Try.zeroValue24
  a24 := Try.isAgg36
  z24 := Try.sizeOf36
  t25 := Try.underlying93
  a25 := Try.isAgg93
  z25 := Try.sizeOf93
  v25 := Try.zeroValue93
  t39 := Try.underlying113
  a39 := Try.isAgg113
  z39 := Try.sizeOf113
  v39 := Try.zeroValue113
  t45 := Try.underlying160
  a45 := Try.isAgg160
  z45 := Try.sizeOf160
  v45 := Try.zeroValue160
  t46 := Try.underlying161
  a46 := Try.isAgg161
  z46 := Try.sizeOf161
  v46 := Try.zeroValue161
  t50 := Try.underlying165
  a50 := Try.isAgg165
  z50 := Try.sizeOf165
  v50 := Try.zeroValue165
  t53 := Try.underlying168
  a53 := Try.isAgg168
  z53 := Try.sizeOf168
  v53 := Try.zeroValue168
  t55 := Try.underlying110
  a55 := Try.isAgg110
  z55 := Try.sizeOf110
  v55 := Try.zeroValue110
  t66 := Try.underlying177
  a66 := Try.isAgg177
  z66 := Try.sizeOf177
  v66 := Try.zeroValue177
  t70 := Try.underlying181
  a70 := Try.isAgg181
  z70 := Try.sizeOf181
  v70 := Try.zeroValue181
  t76 := Try.underlying187
  a76 := Try.isAgg187
  z76 := Try.sizeOf187
  v76 := Try.zeroValue187
  t77 := Try.underlying188
  a77 := Try.isAgg188
  z77 := Try.sizeOf188
  v77 := Try.zeroValue188
noncomputable def slices_SortFunc_86_f87 (a0 : List (List Int)) : Option (List (List Int)) :=
  sortRows slices_Compare_87 a0
theorem slices_SortFunc_86_f87_ok {w0 ws : World} {ρ0 : Nat → Nat} {i : Nat} (hW : Wd w0 ρ0 ws) {a0 : List (List Int)} {va0 : Value} {f0 : Nat → V1} (h0 : Gd fI64 2 36 ρ0 ws w0.heap.size i va0 f0 (List.range a0.length) a0) {r : List (List Int)} (hF : slices_SortFunc_86_f87 a0 = some r) :
    Calls Try.prog 86 [va0, .func (.func 87) #[] #[]].toArray ws fun e w => ∃ v, e = .returned v ∧ ∃ ρ', Wd w0 ρ' w ∧ (∀ b, b ≠ i → (∀ r, b ≠ lab i r) → Tr b ρ0 ws ρ' w) ∧ .tuple #[] = v ∧ ∃ f', Gd fI64 2 36 ρ' w w0.heap.size i va0 f' (List.range r.length) r :=
  gsort_ok sort86 rfl (enters_of Try.func87 (by kernel_rfl) rfl) (fun h h0 h1 => (slices_Compare_87_ok h0 h1 h).mono fun e w ⟨v, h1, h2, h3⟩ => ⟨v, h1, h2, h3.symm⟩) hW h0 hF
/-! f37 -/
noncomputable def impl_ProfileOf (a0 : Sch) : Option (List (List Int) × Int) :=
  (impl_IsScheme a0).bind fun x1 => if (!x1) = true then (some ((([] : List (List Int)), 1))) else ((impl_ranks a0).bind fun x4 => (slices_SortFunc_86_f87 x4).bind fun x8 => if (List.range x8.length).Nodup then some (((gi (List.range x8.length) x8), 0)) else none)
theorem impl_ProfileOf_ok {w0 : World} {a0 : Sch} {va0 : Value} (h0 : Ro (kf cProd) w0 va0 a0.ps) {r : List (List Int) × Int} (hF : impl_ProfileOf a0 = some r) :
    Calls Try.prog 37 [.agg ([vI a0.p, vI a0.n, vI a0.m, vI a0.k, va0]).toArray].toArray w0 fun e w => ∃ v, e = .returned v ∧ Below w0.heap.size w0 w ∧ ∃ u0, .tuple #[u0, .int .i64 r.2] = v ∧ GFresh fI64 2 36 w0 w u0 r.1 := by
  refine calls_of (k := 13) Try.func37 rfl rfl (Nat.le_of_ble_eq_true rfl) fun a hf => ?_
  replace hf : Fr 13 a [(0, .agg ([vI a0.p, vI a0.n, vI a0.m, vI a0.k, va0]).toArray)] := hf
  refine c_start fun w ρ hw => ?_
  unfold impl_ProfileOf at hF
  refine c_seq <| c_region ?_
  refine sx_ hf (r_box (cs := [vI a0.p, vI a0.n, vI a0.m, vI a0.k, va0]) 1 hw hf rfl rfl) fun a v w hf hΦ => ?_
  obtain ⟨g1, ρ, rfl, hw, hE, o1⟩ := hΦ
  have o2 : Ow (Kd.slice 2 (kf fI64)) 36 ρ w w0.heap.size 2 (.slice none 0 0) [] := Ow.nil _ _ _ _ _ _
  refine s_ hf (r_assign hf rfl) fun a hf => ?_
  refine s_ hf (r_assign hf rfl) fun a hf => ?_
  refine c_nt <| c_seq <| c_seq <| c_region ?_
  refine s_ hf (r_load_agg ty39 hf rfl o1.cl rfl) fun a hf => ?_
  obtain ⟨x1, hx2, hF⟩ := of_bind hF
  refine st_fn 3 hw hf rfl rfl (by decide) (r_fn en84 hf rfl) (impl_IsScheme_ok (a0 := a0) (h0.now hw) hx2) fun a v w ρ hf hw hE hN hΦ => ?_
  obtain rfl := hΦ
  replace o1 := o1.ext hE
  replace o2 := o2.ext hE
  refine s_ hf (r_not hf rfl) fun a hf => ?_
  refine c_nt ?_
  rcases of_ite hF with ⟨hb3, hF⟩ | ⟨hb3, hF⟩
  · refine c_ift hf rfl hb3 <| c_seq <| c_region ?_
    have o4 : Ow (Kd.slice 2 (kf fI64)) 36 ρ w w0.heap.size 4 (.slice none 0 0) [] := Ow.nil _ _ _ _ _ _
    refine s_ hf (r_assign hf rfl) fun a hf => ?_
    refine s_ hf (r_assign hf rfl) fun a hf => ?_
    refine c_nt <| c_retc ?_
    obtain rfl := Option.some.inj hF
    refine r_then <| c_ret hf (res_tt Try.results37 hf rfl rfl) ?_
    exact ⟨_, rfl, hw.below, ⟨_, rfl, (Gd.empty (d := fI64) (e' := 2) o4 rfl (by decide) (fun _ => (⟨.bool false, rfl⟩ : V1))).gout List.nodup_nil⟩⟩
  refine c_iff hf rfl hb3 <| c_skip <| n_then <| c_seq <| c_region ?_
  refine s_ hf (r_load_agg ty39 hf rfl o1.cl rfl) fun a hf => ?_
  obtain ⟨x4, hx5, hF⟩ := of_bind hF
  refine st_fnr hf (r_fn en85 hf rfl) (impl_ranks_ok (a0 := a0) (h0.now hw) hx5) fun a v w hf hb hΦ => ?_
  obtain ⟨u6, rfl, hg⟩ := hΦ
  obtain ⟨f5, ρ, hw, hE, o5⟩ := hg.own hw hb 5 (by decide)
  replace o1 := o1.ext hE
  replace o2 := o2.ext hE
  refine s_ hf (r_assign hf rfl) fun a hf => ?_
  refine c_nt <| c_seq <| c_region ?_
  refine s_ hf (r_move hf rfl) fun a hf => ?_
  obtain ⟨x8, hx9, hF⟩ := of_bind hF
  refine st_gs hf rfl rfl (by decide) (r_fn en86 hf rfl) (slices_SortFunc_86_f87_ok hw o5 hx9) fun a v w ρ hf hw hT hΦ => ?_
  obtain ⟨rfl, f10, o5⟩ := hΦ
  replace o1 := o1.tr (hT 1 (by decide) (fun _ => by unfold lab; omega))
  replace o2 := o2.tr (hT 2 (by decide) (fun _ => by unfold lab; omega))
  refine c_nt <| c_seq <| c_region ?_
  refine s_ hf (r_move hf rfl) fun a hf => ?_
  refine s_ hf (r_assign hf rfl) fun a hf => ?_
  refine s_ hf (r_assign hf rfl) fun a hf => ?_
  refine c_nt <| c_retc ?_
  obtain ⟨hnd, hF⟩ := of_guard hF
  obtain rfl := Option.some.inj hF
  refine c_ret hf (res_tt Try.results37 hf rfl rfl) ?_
  exact ⟨_, rfl, hw.below, ⟨_, rfl, o5.gout hnd⟩⟩
/-! f5 -/
noncomputable def laws_FnExactProfileOf (a0 : Sch) : Option Bool :=
  (laws_szScheme a0 1048576).bind fun x1 => if (decide (x1 < 0)) = true then (some (true)) else ((laws_toScheme a0).bind fun x4 => (spec_ProfileOf x4).bind fun x8 => (laws_toScheme a0).bind fun x12 => (impl_ProfileOf x12).bind fun x16 => ((laws_eqInt64SS (gi (List.range x16.1.length) x16.1) x8.1).bind fun x21 => if (!x21) = true then (some true) else (some (decide (x16.2 ≠ x8.2)))).bind fun (s20 : Bool) => if s20 = true then (some (false)) else ((laws_toScheme a0).bind fun x25 => (laws_eqScheme x12 x25).bind fun x29 => if (!x29) = true then (some (false)) else ((laws_markScheme x12 1).bind fun x32 => (if (decide (x32.1 < 0)) = true then (some true) else ((laws_eqInt64SS (gi (List.range x16.1.length) x16.1) x8.1).bind fun x37 => if (!x37) = true then (some true) else (some (decide (x16.2 ≠ x8.2))))).bind fun (s35 : Bool) => if s35 = true then (some (false)) else ((laws_markInt64SS x16.1 1).bind fun x41 => (laws_heldInt64SS (gi (List.range x16.1.length) x41.2) 1).bind fun x43 => if (decide (x43 < 0)) = true then (some (false)) else (if (decide (x43 ≠ x41.1)) = true then (some (false)) else ((laws_toScheme a0).bind fun x47 => (impl_ProfileOf x47).bind fun x51 => ((laws_eqInt64SS (gi (List.range x51.1.length) x51.1) x8.1).bind fun x56 => if (!x56) = true then (some true) else (some (decide (x51.2 ≠ x8.2)))).bind fun (s55 : Bool) => if s55 = true then (some (false)) else ((laws_heldInt64SS (gi (List.range x16.1.length) x41.2) 1).bind fun x60 => if (decide (x60 < 0)) = true then (some (false)) else (if (decide (x60 ≠ x41.1)) = true then (some (false)) else (some (true))))))))))
theorem laws_FnExactProfileOf_ok {w0 : World} {a0 : Sch} {va0 : Value} (h0 : Ro (kf cProd) w0 va0 a0.ps) {r : Bool} (hF : laws_FnExactProfileOf a0 = some r) :
    Calls Try.prog 5 [.agg ([vI a0.p, vI a0.n, vI a0.m, vI a0.k, va0]).toArray].toArray w0 fun e w => ∃ v, e = .returned v ∧ Below w0.heap.size w0 w ∧ .bool r = v := by
  refine calls_of (k := 96) Try.func5 rfl rfl (Nat.le_of_ble_eq_true rfl) fun a hf => ?_
  replace hf : Fr 96 a [(0, .agg ([vI a0.p, vI a0.n, vI a0.m, vI a0.k, va0]).toArray)] := hf
  refine c_start fun w ρ hw => ?_
  unfold laws_FnExactProfileOf at hF
  refine c_seq <| c_region ?_
  refine sx_ hf (r_box (cs := [vI a0.p, vI a0.n, vI a0.m, vI a0.k, va0]) 1 hw hf rfl rfl) fun a v w hf hΦ => ?_
  obtain ⟨g1, ρ, rfl, hw, hE, o1⟩ := hΦ
  refine s_ hf (r_assign hf rfl) fun a hf => ?_
  refine c_nt <| c_seq <| c_region ?_
  refine s_ hf (r_assign hf rfl) fun a hf => ?_
  refine c_nt <| c_seq <| c_region ?_
  refine s_ hf (r_load_agg ty48 hf rfl o1.cl rfl) fun a hf => ?_
  refine s_ hf (r_move hf rfl) fun a hf => ?_
  obtain ⟨x1, hx2, hF⟩ := of_bind hF
  refine st_fn 2 hw hf rfl rfl (by decide) (r_fn en34 hf rfl) (laws_szScheme_ok (a0 := a0) (h0.now hw) hx2) fun a v w ρ hf hw hE hN hΦ => ?_
  obtain rfl := hΦ
  replace o1 := o1.ext hE
  refine s_ hf (r_assign hf rfl) fun a hf => ?_
  refine c_nt <| c_seq <| c_seq <| c_region ?_
  refine s_ hf (r_move hf rfl) fun a hf => ?_
  refine s_ hf (r_lss hf rfl rfl) fun a hf => ?_
  refine c_nt ?_
  rcases of_ite hF with ⟨hb3, hF⟩ | ⟨hb3, hF⟩
  · refine c_ift hf rfl hb3 <| c_seq <| c_region ?_
    refine s_ hf (r_assign hf rfl) fun a hf => ?_
    refine c_nt <| c_retc ?_
    obtain rfl := Option.some.inj hF
    refine r_then <| c_ret hf (res_tmp Try.results5 hf rfl) ?_
    exact ⟨_, rfl, hw.below, rfl⟩
  refine c_iff hf rfl hb3 <| c_skip <| n_then <| c_seq <| c_region ?_
  refine s_ hf (r_load_agg ty48 hf rfl o1.cl rfl) fun a hf => ?_
  obtain ⟨x4, hx5, hF⟩ := of_bind hF
  refine st_fn 3 hw hf rfl rfl (by decide) (r_fn en36 hf rfl) (laws_toScheme_ok (a0 := a0) (h0.now hw) hx5) fun a v w ρ hf hw hE hN hΦ => ?_
  obtain ⟨u6, rfl, hr7⟩ := hΦ
  replace o1 := o1.ext hE
  have o3 := hN hr7
  obtain ⟨x8, hx9, hF⟩ := of_bind hF
  refine st_fn 4 hw hf rfl rfl (by decide) (r_fn en35 hf rfl) (spec_ProfileOf_ok (a0 := x4) o3.ro hx9) fun a v w ρ hf hw hE hN hΦ => ?_
  obtain ⟨u10, rfl, hr11⟩ := hΦ
  replace o1 := o1.ext hE
  replace o3 := o3.ext hE
  have o4 := hN hr11
  refine s_ hf (r_move hf rfl) fun a hf => ?_
  refine s_ hf (r_extract hf rfl rfl) fun a hf => ?_
  refine s_ hf (r_extract hf rfl rfl) fun a hf => ?_
  refine s_ hf (r_assign hf rfl) fun a hf => ?_
  refine s_ hf (r_assign hf rfl) fun a hf => ?_
  refine c_nt <| c_seq <| c_region ?_
  refine s_ hf (r_load_agg ty48 hf rfl o1.cl rfl) fun a hf => ?_
  obtain ⟨x12, hx13, hF⟩ := of_bind hF
  refine st_fn 5 hw hf rfl rfl (by decide) (r_fn en36 hf rfl) (laws_toScheme_ok (a0 := a0) (h0.now hw) hx13) fun a v w ρ hf hw hE hN hΦ => ?_
  obtain ⟨u14, rfl, hr15⟩ := hΦ
  replace o1 := o1.ext hE
  replace o3 := o3.ext hE
  replace o4 := o4.ext hE
  have o5 := hN hr15
  have o7 : Ow (kf cProd) 82 ρ w w0.heap.size 7 (.slice none 0 0) [] := Ow.nil _ _ _ _ _ _
  refine sx_ hf (r_alloc (cs := [vI 0, vI 0, vI 0, vI 0, (.slice none 0 0)]) 6 ze39 rfl hw) fun a v w hf hΦ => ?_
  obtain ⟨g6, ρ, rfl, hw, hE, o6⟩ := hΦ
  replace o1 := o1.ext hE
  replace o3 := o3.ext hE
  replace o4 := o4.ext hE
  replace o5 := o5.ext hE
  replace o7 := o7.ext hE
  refine sk_ hf (r_store_w (cs' := [vI x12.p, vI x12.n, vI x12.m, vI x12.k, u14]) hw o6 (by decide) ty39 rfl rfl (one_sch o5.ro.one) hf rfl rfl rfl) fun a w hf hΦ => ?_
  obtain ⟨hw, hA, o6⟩ := hΦ
  replace o1 := o1.adv hA (by decide)
  replace o3 := o3.adv hA (by decide)
  replace o4 := o4.adv hA (by decide)
  replace o5 := o5.adv hA (by decide)
  replace o7 := o7.adv hA (by decide)
  refine c_nt <| c_seq <| c_region ?_
  refine s_ hf (r_load_agg ty39 hf rfl o6.cl rfl) fun a hf => ?_
  obtain ⟨x16, hx17, hF⟩ := of_bind hF
  refine st_fnr hf (r_fn en37 hf rfl) (impl_ProfileOf_ok (a0 := x12) o5.ro hx17) fun a v w hf hb hΦ => ?_
  obtain ⟨u18, rfl, hg⟩ := hΦ
  obtain ⟨f8, ρ, hw, hE, o8⟩ := hg.own hw hb 8 (by decide)
  replace o1 := o1.ext hE
  replace o3 := o3.ext hE
  replace o4 := o4.ext hE
  replace o5 := o5.ext hE
  replace o7 := o7.ext hE
  replace o6 := o6.ext hE
  refine s_ hf (r_move hf rfl) fun a hf => ?_
  refine s_ hf (r_extract hf rfl rfl) fun a hf => ?_
  refine s_ hf (r_extract hf rfl rfl) fun a hf => ?_
  refine s_ hf (r_assign hf rfl) fun a hf => ?_
  refine s_ hf (r_assign hf rfl) fun a hf => ?_
  refine c_nt <| c_seq <| c_seq ?_
  obtain ⟨s20, hT19, hG19⟩ := of_bind hF
  clear hF
  refine c_meet (fun (s20 : Bool) a w => ∃ ρ, Wd w0 ρ w ∧ Fr 96 a [(1, .pointer (some ((⟨g1, 0, none⟩ : Addr).add 0))), (4, u10), (5, vI x8.2), (6, .pointer (some ((⟨g6, 0, none⟩ : Addr).add 0))), (7, u18), (8, vI x16.2), (40, .bool s20)] ∧ Va ρ w 1 g1 48 ([vI a0.p, vI a0.n, vI a0.m, vI a0.k, va0]) ∧ O36 ρ w w0 4 u10 x8.1 ∧ O82 ρ w w0 5 u14 x12.ps ∧ Va ρ w 6 g6 39 ([vI x12.p, vI x12.n, vI x12.m, vI x12.k, u14]) ∧ Gd fI64 2 36 ρ w w0.heap.size 8 u18 f8 (List.range x16.1.length) x16.1) s20 ?_ ?_
  · have hF := hT19
    refine c_region ?_
    refine s_ hf (r_move hf rfl) fun a hf => ?_
    refine s_ hf (r_move hf rfl) fun a hf => ?_
    obtain ⟨x21, hx22, hF⟩ := of_bind hF
    refine st_fn 9 hw hf rfl rfl (by decide) (r_fn en38 hf rfl) (laws_eqInt64SS_ok o8.ro o4.ro hx22) fun a v w ρ hf hw hE hN hΦ => ?_
    obtain rfl := hΦ
    replace o1 := o1.ext hE
    replace o3 := o3.ext hE
    replace o4 := o4.ext hE
    replace o5 := o5.ext hE
    replace o7 := o7.ext hE
    replace o6 := o6.ext hE
    replace o8 := o8.ext hE
    refine s_ hf (r_not hf rfl) fun a hf => ?_
    refine s_ hf (r_move hf rfl) fun a hf => ?_
    rcases of_ite hF with ⟨hb23, hF⟩ | ⟨hb23, hF⟩
    · refine st_no (b := true) hf rfl rfl rfl hb23 rfl (by decide) fun a hf => ?_
      refine st_no (b := true) hf rfl rfl rfl hb23 rfl (by decide) fun a hf => ?_
      refine st_no (b := true) hf rfl rfl rfl hb23 rfl (by decide) fun a hf => ?_
      refine s_ hf (r_pick (b := true) hf rfl hb23 rfl) fun a hf => ?_
      refine c_nil ⟨rfl, ?_⟩
      obtain rfl := Option.some.inj hF
      exact ⟨_, hw, hf.sub ⟨rfl, rfl, rfl, rfl, rfl, rfl, rfl, trivial⟩, o1, o4, o5, o6, o8⟩
    refine st_g (b := false) hf rfl rfl rfl hb23 rfl (by decide) (r_move hf rfl) fun a hf => ?_
    refine st_g (b := false) hf rfl rfl rfl hb23 rfl (by decide) (r_move hf rfl) fun a hf => ?_
    refine st_g (b := false) hf rfl rfl rfl hb23 rfl (by decide) (r_neq hf rfl rfl) fun a hf => ?_
    refine s_ hf (r_pick (b := false) hf rfl hb23 rfl) fun a hf => ?_
    refine c_nil ⟨rfl, ?_⟩
    obtain rfl := Option.some.inj hF
    exact ⟨_, hw, hf.sub ⟨rfl, rfl, rfl, rfl, rfl, rfl, rfl, trivial⟩, o1, o4, o5, o6, o8⟩
  rintro a w ⟨ρ, hw, hf, o1, o4, o5, o6, o8⟩
  have hF := hG19
  refine n_then ?_
  rcases of_ite hF with ⟨hb24, hF⟩ | ⟨hb24, hF⟩
  · refine c_ift hf rfl hb24 <| c_seq <| c_region ?_
    refine s_ hf (r_assign hf rfl) fun a hf => ?_
    refine c_nt <| c_retc ?_
    obtain rfl := Option.some.inj hF
    refine r_then <| c_ret hf (res_tmp Try.results5 hf rfl) ?_
    exact ⟨_, rfl, hw.below, rfl⟩
  refine c_iff hf rfl hb24 <| c_skip <| n_then <| c_seq <| c_seq ?_
  obtain ⟨x25, hx26, hF⟩ := of_bind hF
  replace hf : Fr 96 a [(1, .pointer (some ((⟨g1, 0, none⟩ : Addr).add 0))), (4, u10), (5, vI x8.2), (6, .pointer (some ((⟨g6, 0, none⟩ : Addr).add 0))), (7, u18), (8, vI x16.2)] := hf.sub ⟨rfl, rfl, rfl, rfl, rfl, rfl, trivial⟩
  refine c_drawL (h := 3) mixed (by kernel_rfl) (by kernel_rfl) (fun ρ w => Va ρ w 1 g1 48 ([vI a0.p, vI a0.n, vI a0.m, vI a0.k, va0]) ∧ O36 ρ w w0 4 u10 x8.1 ∧ O82 ρ w w0 5 u14 x12.ps ∧ Va ρ w 6 g6 39 ([vI x12.p, vI x12.n, vI x12.m, vI x12.k, u14]) ∧ Gd fI64 2 36 ρ w w0.heap.size 8 u18 f8 (List.range x16.1.length) x16.1) ?_ [fun ρ w v => .agg ([vI x12.p, vI x12.n, vI x12.m, vI x12.k, u14]).toArray = v, fun ρ w v => .agg ([vI a0.p, vI a0.n, vI a0.m, vI a0.k, va0]).toArray = v, fun ρ w v => ∃ u27, .agg ([vI x25.p, vI x25.n, vI x25.m, vI x25.k, u27]).toArray = v ∧ O82 ρ w w0 10 u27 x25.ps] ?_ hw ⟨o1, o4, o5, o6, o8⟩ hf ?_ ?_
  · intro ρ w ρ' w' hE hG
    obtain ⟨o1, o4, o5, o6, o8⟩ := hG
    exact ⟨o1.ext hE, o4.ext hE, o5.ext hE, o6.ext hE, o8.ext hE⟩
  · exact LastsL.cons (fun _ _ _ _ _ _ h => h) <| LastsL.cons (fun _ _ _ _ _ _ h => h) <| LastsL.cons (fun _ _ _ _ _ hE h => by obtain ⟨u27, h, o10⟩ := h; exact ⟨_, h, o10.ext hE⟩) <| LastsL.nil
  · refine StepsB.cons ?_ <| StepsB.cons ?_ <| StepsB.cons ?_ <| StepsB.nil
    · intro ρ w a hw hG hf hd K hK
      obtain ⟨o1, o4, o5, o6, o8⟩ := hG
      exact dv_ hK hw (wn rfl) (r_load_agg ty39 hf rfl o6.cl rfl) rfl
    · intro ρ w a hw hG hf hd K hK
      obtain ⟨o1, o4, o5, o6, o8⟩ := hG
      exact dv_ hK hw (wn rfl) (r_load_agg ty48 hf rfl o1.cl rfl) rfl
    · intro ρ w a hw hG hf hd K hK
      obtain ⟨o1, o4, o5, o6, o8⟩ := hG
      obtain ⟨_, hf, rfl⟩ := got (hd 1 (by kernel_rfl)) hf
      refine dc_ hK hw (wn rfl) (r_fn en36 hf rfl) (laws_toScheme_ok (a0 := a0) (h0.now hw) hx26) fun v w' hΦ => ?_
      obtain ⟨hb, hΦ⟩ := hΦ
      obtain ⟨u27, rfl, hr28⟩ := hΦ
      have hE := Ext.new (ρ := ρ) 10 hb
      have o10 := Fresh.own (ρ := ρ) (B := w0.heap.size) hr28 hw.below.size 10
      exact ⟨_, hw.new 10 hb, hE, ex_ <| an_ rfl <| o10⟩
  intro ρ w a hw hG hf hd
  obtain ⟨o1, o4, o5, o6, o8⟩ := hG
  obtain ⟨_, hf, rfl⟩ := got (hd 0 (by decide)) hf
  obtain ⟨_, hf, ⟨u27, rfl, o10⟩⟩ := got (hd 2 (by decide)) hf
  obtain ⟨x29, hx30, hF⟩ := of_bind hF
  refine st_fn 11 hw hf rfl rfl (by decide) (r_fn en39 hf rfl) (laws_eqScheme_ok (a0 := x12) (a1 := x25) o5.ro o10.ro hx30) fun a v w ρ hf hw hE hN hΦ => ?_
  obtain rfl := hΦ
  replace o1 := o1.ext hE
  replace o4 := o4.ext hE
  replace o5 := o5.ext hE
  replace o6 := o6.ext hE
  replace o8 := o8.ext hE
  replace o10 := o10.ext hE
  refine s_ hf (r_not hf rfl) fun a hf => ?_
  refine c_nt ?_
  rcases of_ite hF with ⟨hb31, hF⟩ | ⟨hb31, hF⟩
  · refine c_ift hf rfl hb31 <| c_seq <| c_region ?_
    refine s_ hf (r_assign hf rfl) fun a hf => ?_
    refine c_nt <| c_retc ?_
    obtain rfl := Option.some.inj hF
    refine r_then <| c_ret hf (res_tmp Try.results5 hf rfl) ?_
    exact ⟨_, rfl, hw.below, rfl⟩
  refine c_iff hf rfl hb31 <| c_skip <| n_then <| c_seq <| c_region ?_
  refine s_ hf (r_assign hf rfl) fun a hf => ?_
  refine c_nt <| c_seq <| c_region ?_
  refine s_ hf (r_load_agg ty39 hf rfl o6.cl rfl) fun a hf => ?_
  refine s_ hf (r_move hf rfl) fun a hf => ?_
  obtain ⟨x32, hx33, hF⟩ := of_bind hF
  refine st_mfn hf rfl rfl (by decide) (r_fn en40 hf rfl) (laws_markScheme_ok (a0 := x12) (by decide) hw o5 hx33) fun a v w ρ hf hw hA hΦ => ?_
  obtain ⟨rfl, o5⟩ := hΦ
  replace o1 := o1.adv hA (by decide)
  replace o4 := o4.adv hA (by decide)
  replace o6 := o6.adv hA (by decide)
  replace o8 := o8.adv hA (by decide) (fun _ => by unfold lab; omega)
  replace o10 := o10.adv hA (by decide)
  refine s_ hf (r_assign hf rfl) fun a hf => ?_
  refine c_nt <| c_seq <| c_seq ?_
  obtain ⟨s35, hT34, hG34⟩ := of_bind hF
  clear hF
  refine c_meet (fun (s35 : Bool) a w => ∃ ρ, Wd w0 ρ w ∧ Fr 96 a [(1, .pointer (some ((⟨g1, 0, none⟩ : Addr).add 0))), (4, u10), (5, vI x8.2), (7, u18), (61, .bool s35)] ∧ Va ρ w 1 g1 48 ([vI a0.p, vI a0.n, vI a0.m, vI a0.k, va0]) ∧ O36 ρ w w0 4 u10 x8.1 ∧ Gd fI64 2 36 ρ w w0.heap.size 8 u18 f8 (List.range x16.1.length) x16.1) s35 ?_ ?_
  · have hF := hT34
    refine c_region ?_
    refine s_ hf (r_move hf rfl) fun a hf => ?_
    refine s_ hf (r_lss hf rfl rfl) fun a hf => ?_
    refine s_ hf (r_move hf rfl) fun a hf => ?_
    rcases of_ite hF with ⟨hb36, hF⟩ | ⟨hb36, hF⟩
    · refine st_no (b := true) hf rfl rfl rfl hb36 rfl (by decide) fun a hf => ?_
      refine st_no (b := true) hf rfl rfl rfl hb36 rfl (by decide) fun a hf => ?_
      refine st_no (b := true) hf rfl rfl rfl hb36 rfl (by decide) fun a hf => ?_
      refine st_no (b := true) hf rfl rfl rfl hb36 rfl (by decide) fun a hf => ?_
      refine s_ hf (r_pick (b := true) hf rfl hb36 rfl) fun a hf => ?_
      refine s_ hf (r_move hf rfl) fun a hf => ?_
      refine st_no (b := true) hf rfl rfl rfl rfl rfl (by decide) fun a hf => ?_
      refine st_no (b := true) hf rfl rfl rfl rfl rfl (by decide) fun a hf => ?_
      refine st_no (b := true) hf rfl rfl rfl rfl rfl (by decide) fun a hf => ?_
      refine s_ hf (r_pick (b := true) hf rfl rfl rfl) fun a hf => ?_
      refine c_nil ⟨rfl, ?_⟩
      obtain rfl := Option.some.inj hF
      exact ⟨_, hw, hf.sub ⟨rfl, rfl, rfl, rfl, rfl, trivial⟩, o1, o4, o8⟩
    refine st_g (b := false) hf rfl rfl rfl hb36 rfl (by decide) (r_move hf rfl) fun a hf => ?_
    refine st_g (b := false) hf rfl rfl rfl hb36 rfl (by decide) (r_move hf rfl) fun a hf => ?_
    obtain ⟨x37, hx38, hF⟩ := of_bind hF
    refine st_gfn (b := false) 12 hw hf rfl rfl rfl hb36 rfl (by decide) (r_fn en38 hf rfl) (laws_eqInt64SS_ok o8.ro o4.ro hx38) fun a v w ρ hf hw hE hN hΦ => ?_
    obtain rfl := hΦ
    replace o1 := o1.ext hE
    replace o4 := o4.ext hE
    replace o5 := o5.ext hE
    replace o6 := o6.ext hE
    replace o8 := o8.ext hE
    replace o10 := o10.ext hE
    refine st_g (b := false) hf rfl rfl rfl hb36 rfl (by decide) (r_not hf rfl) fun a hf => ?_
    refine s_ hf (r_pick (b := false) hf rfl hb36 rfl) fun a hf => ?_
    refine s_ hf (r_move hf rfl) fun a hf => ?_
    rcases of_ite hF with ⟨hb39, hF⟩ | ⟨hb39, hF⟩
    · refine st_no (b := true) hf rfl rfl rfl hb39 rfl (by decide) fun a hf => ?_
      refine st_no (b := true) hf rfl rfl rfl hb39 rfl (by decide) fun a hf => ?_
      refine st_no (b := true) hf rfl rfl rfl hb39 rfl (by decide) fun a hf => ?_
      refine s_ hf (r_pick (b := true) hf rfl hb39 rfl) fun a hf => ?_
      refine c_nil ⟨rfl, ?_⟩
      obtain rfl := Option.some.inj hF
      exact ⟨_, hw, hf.sub ⟨rfl, rfl, rfl, rfl, rfl, trivial⟩, o1, o4, o8⟩
    refine st_g (b := false) hf rfl rfl rfl hb39 rfl (by decide) (r_move hf rfl) fun a hf => ?_
    refine st_g (b := false) hf rfl rfl rfl hb39 rfl (by decide) (r_move hf rfl) fun a hf => ?_
    refine st_g (b := false) hf rfl rfl rfl hb39 rfl (by decide) (r_neq hf rfl rfl) fun a hf => ?_
    refine s_ hf (r_pick (b := false) hf rfl hb39 rfl) fun a hf => ?_
    refine c_nil ⟨rfl, ?_⟩
    obtain rfl := Option.some.inj hF
    exact ⟨_, hw, hf.sub ⟨rfl, rfl, rfl, rfl, rfl, trivial⟩, o1, o4, o8⟩
  rintro a w ⟨ρ, hw, hf, o1, o4, o8⟩
  have hF := hG34
  refine n_then ?_
  rcases of_ite hF with ⟨hb40, hF⟩ | ⟨hb40, hF⟩
  · refine c_ift hf rfl hb40 <| c_seq <| c_region ?_
    refine s_ hf (r_assign hf rfl) fun a hf => ?_
    refine c_nt <| c_retc ?_
    obtain rfl := Option.some.inj hF
    refine r_then <| c_ret hf (res_tmp Try.results5 hf rfl) ?_
    exact ⟨_, rfl, hw.below, rfl⟩
  refine c_iff hf rfl hb40 <| c_skip <| n_then <| c_seq <| c_region ?_
  refine s_ hf (r_assign hf rfl) fun a hf => ?_
  refine c_nt <| c_seq <| c_region ?_
  refine s_ hf (r_move hf rfl) fun a hf => ?_
  refine s_ hf (r_move hf rfl) fun a hf => ?_
  obtain ⟨x41, hx42, hF⟩ := of_bind hF
  refine st_gmfn hf rfl rfl (by decide) (r_fn en41 hf rfl) (laws_markInt64SS_ok hw o8 hx42) fun a v w ρ hf hw hA hΦ => ?_
  obtain ⟨rfl, o8⟩ := hΦ
  replace o1 := o1.tr (hA.tr 1 (by decide) (fun _ => by unfold lab; omega))
  replace o4 := o4.tr (hA.tr 4 (by decide) (fun _ => by unfold lab; omega))
  refine s_ hf (r_assign hf rfl) fun a hf => ?_
  refine c_nt <| c_seq <| c_region ?_
  refine s_ hf (r_assign hf rfl) fun a hf => ?_
  refine c_nt <| c_seq <| c_region ?_
  refine s_ hf (r_move hf rfl) fun a hf => ?_
  refine s_ hf (r_move hf rfl) fun a hf => ?_
  obtain ⟨x43, hx44, hF⟩ := of_bind hF
  refine st_fn 13 hw hf rfl rfl (by decide) (r_fn en42 hf rfl) (laws_heldInt64SS_ok o8.ro hx44) fun a v w ρ hf hw hE hN hΦ => ?_
  obtain rfl := hΦ
  replace o1 := o1.ext hE
  replace o4 := o4.ext hE
  replace o8 := o8.ext hE
  refine s_ hf (r_assign hf rfl) fun a hf => ?_
  refine c_nt <| c_seq <| c_seq <| c_region ?_
  refine s_ hf (r_move hf rfl) fun a hf => ?_
  refine s_ hf (r_lss hf rfl rfl) fun a hf => ?_
  refine c_nt ?_
  rcases of_ite hF with ⟨hb45, hF⟩ | ⟨hb45, hF⟩
  · refine c_ift hf rfl hb45 <| c_seq <| c_region ?_
    refine s_ hf (r_assign hf rfl) fun a hf => ?_
    refine c_nt <| c_retc ?_
    obtain rfl := Option.some.inj hF
    refine r_then <| c_ret hf (res_tmp Try.results5 hf rfl) ?_
    exact ⟨_, rfl, hw.below, rfl⟩
  refine c_iff hf rfl hb45 <| c_skip <| n_then <| c_seq <| c_seq <| c_region ?_
  refine s_ hf (r_move hf rfl) fun a hf => ?_
  refine s_ hf (r_move hf rfl) fun a hf => ?_
  refine s_ hf (r_neq hf rfl rfl) fun a hf => ?_
  refine c_nt ?_
  rcases of_ite hF with ⟨hb46, hF⟩ | ⟨hb46, hF⟩
  · refine c_ift hf rfl hb46 <| c_seq <| c_region ?_
    refine s_ hf (r_assign hf rfl) fun a hf => ?_
    refine c_nt <| c_retc ?_
    obtain rfl := Option.some.inj hF
    refine r_then <| c_ret hf (res_tmp Try.results5 hf rfl) ?_
    exact ⟨_, rfl, hw.below, rfl⟩
  refine c_iff hf rfl hb46 <| c_skip <| n_then <| c_seq <| c_region ?_
  refine s_ hf (r_load_agg ty48 hf rfl o1.cl rfl) fun a hf => ?_
  obtain ⟨x47, hx48, hF⟩ := of_bind hF
  refine st_fn 14 hw hf rfl rfl (by decide) (r_fn en36 hf rfl) (laws_toScheme_ok (a0 := a0) (h0.now hw) hx48) fun a v w ρ hf hw hE hN hΦ => ?_
  obtain ⟨u49, rfl, hr50⟩ := hΦ
  replace o1 := o1.ext hE
  replace o4 := o4.ext hE
  replace o8 := o8.ext hE
  have o14 := hN hr50
  obtain ⟨x51, hx52, hF⟩ := of_bind hF
  refine st_fnr hf (r_fn en37 hf rfl) (impl_ProfileOf_ok (a0 := x47) o14.ro hx52) fun a v w hf hb hΦ => ?_
  obtain ⟨u53, rfl, hg⟩ := hΦ
  obtain ⟨f15, ρ, hw, hE, o15⟩ := hg.own hw hb 15 (by decide)
  replace o1 := o1.ext hE
  replace o4 := o4.ext hE
  replace o8 := o8.ext hE
  replace o14 := o14.ext hE
  refine s_ hf (r_move hf rfl) fun a hf => ?_
  refine s_ hf (r_extract hf rfl rfl) fun a hf => ?_
  refine s_ hf (r_extract hf rfl rfl) fun a hf => ?_
  refine s_ hf (r_assign hf rfl) fun a hf => ?_
  refine s_ hf (r_assign hf rfl) fun a hf => ?_
  refine c_nt <| c_seq <| c_seq ?_
  obtain ⟨s55, hT54, hG54⟩ := of_bind hF
  clear hF
  refine c_meet (fun (s55 : Bool) a w => ∃ ρ, Wd w0 ρ w ∧ Fr 96 a [(7, u18), (10, vI x41.1), (87, .bool s55)] ∧ Gd fI64 2 36 ρ w w0.heap.size 8 u18 f8 (List.range x16.1.length) x41.2) s55 ?_ ?_
  · have hF := hT54
    refine c_region ?_
    refine s_ hf (r_move hf rfl) fun a hf => ?_
    refine s_ hf (r_move hf rfl) fun a hf => ?_
    obtain ⟨x56, hx57, hF⟩ := of_bind hF
    refine st_fn 16 hw hf rfl rfl (by decide) (r_fn en38 hf rfl) (laws_eqInt64SS_ok o15.ro o4.ro hx57) fun a v w ρ hf hw hE hN hΦ => ?_
    obtain rfl := hΦ
    replace o1 := o1.ext hE
    replace o4 := o4.ext hE
    replace o8 := o8.ext hE
    replace o14 := o14.ext hE
    replace o15 := o15.ext hE
    refine s_ hf (r_not hf rfl) fun a hf => ?_
    refine s_ hf (r_move hf rfl) fun a hf => ?_
    rcases of_ite hF with ⟨hb58, hF⟩ | ⟨hb58, hF⟩
    · refine st_no (b := true) hf rfl rfl rfl hb58 rfl (by decide) fun a hf => ?_
      refine st_no (b := true) hf rfl rfl rfl hb58 rfl (by decide) fun a hf => ?_
      refine st_no (b := true) hf rfl rfl rfl hb58 rfl (by decide) fun a hf => ?_
      refine s_ hf (r_pick (b := true) hf rfl hb58 rfl) fun a hf => ?_
      refine c_nil ⟨rfl, ?_⟩
      obtain rfl := Option.some.inj hF
      exact ⟨_, hw, hf.sub ⟨rfl, rfl, rfl, trivial⟩, o8⟩
    refine st_g (b := false) hf rfl rfl rfl hb58 rfl (by decide) (r_move hf rfl) fun a hf => ?_
    refine st_g (b := false) hf rfl rfl rfl hb58 rfl (by decide) (r_move hf rfl) fun a hf => ?_
    refine st_g (b := false) hf rfl rfl rfl hb58 rfl (by decide) (r_neq hf rfl rfl) fun a hf => ?_
    refine s_ hf (r_pick (b := false) hf rfl hb58 rfl) fun a hf => ?_
    refine c_nil ⟨rfl, ?_⟩
    obtain rfl := Option.some.inj hF
    exact ⟨_, hw, hf.sub ⟨rfl, rfl, rfl, trivial⟩, o8⟩
  rintro a w ⟨ρ, hw, hf, o8⟩
  have hF := hG54
  refine n_then ?_
  rcases of_ite hF with ⟨hb59, hF⟩ | ⟨hb59, hF⟩
  · refine c_ift hf rfl hb59 <| c_seq <| c_region ?_
    refine s_ hf (r_assign hf rfl) fun a hf => ?_
    refine c_nt <| c_retc ?_
    obtain rfl := Option.some.inj hF
    refine r_then <| c_ret hf (res_tmp Try.results5 hf rfl) ?_
    exact ⟨_, rfl, hw.below, rfl⟩
  refine c_iff hf rfl hb59 <| c_skip <| n_then <| c_seq <| c_region ?_
  refine s_ hf (r_assign hf rfl) fun a hf => ?_
  refine c_nt <| c_seq <| c_region ?_
  refine s_ hf (r_move hf rfl) fun a hf => ?_
  refine s_ hf (r_move hf rfl) fun a hf => ?_
  obtain ⟨x60, hx61, hF⟩ := of_bind hF
  refine st_fn 17 hw hf rfl rfl (by decide) (r_fn en42 hf rfl) (laws_heldInt64SS_ok o8.ro hx61) fun a v w ρ hf hw hE hN hΦ => ?_
  obtain rfl := hΦ
  replace o8 := o8.ext hE
  refine s_ hf (r_assign hf rfl) fun a hf => ?_
  refine c_nt <| c_seq <| c_seq <| c_region ?_
  refine s_ hf (r_move hf rfl) fun a hf => ?_
  refine s_ hf (r_lss hf rfl rfl) fun a hf => ?_
  refine c_nt ?_
  rcases of_ite hF with ⟨hb62, hF⟩ | ⟨hb62, hF⟩
  · refine c_ift hf rfl hb62 <| c_seq <| c_region ?_
    refine s_ hf (r_assign hf rfl) fun a hf => ?_
    refine c_nt <| c_retc ?_
    obtain rfl := Option.some.inj hF
    refine r_then <| c_ret hf (res_tmp Try.results5 hf rfl) ?_
    exact ⟨_, rfl, hw.below, rfl⟩
  refine c_iff hf rfl hb62 <| c_skip <| n_then <| c_seq <| c_seq <| c_region ?_
  refine s_ hf (r_move hf rfl) fun a hf => ?_
  refine s_ hf (r_move hf rfl) fun a hf => ?_
  refine s_ hf (r_neq hf rfl rfl) fun a hf => ?_
  refine c_nt ?_
  rcases of_ite hF with ⟨hb63, hF⟩ | ⟨hb63, hF⟩
  · refine c_ift hf rfl hb63 <| c_seq <| c_region ?_
    refine s_ hf (r_assign hf rfl) fun a hf => ?_
    refine c_nt <| c_retc ?_
    obtain rfl := Option.some.inj hF
    refine r_then <| c_ret hf (res_tmp Try.results5 hf rfl) ?_
    exact ⟨_, rfl, hw.below, rfl⟩
  refine c_iff hf rfl hb63 <| c_skip <| n_then <| c_seq <| c_region ?_
  refine s_ hf (r_assign hf rfl) fun a hf => ?_
  refine c_nt <| c_retc ?_
  obtain rfl := Option.some.inj hF
  refine c_ret hf (res_tmp Try.results5 hf rfl) ?_
  exact ⟨_, rfl, hw.below, rfl⟩
end Go.Proofs.YtB
