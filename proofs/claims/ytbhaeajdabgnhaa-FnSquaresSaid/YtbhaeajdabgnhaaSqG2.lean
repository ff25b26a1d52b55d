/- Functions of the program as plain functions, and that they compute these. Printed by gen.py. -/
import Derived.Test.YtbhaeajdabgnhaaSqG1
set_option linter.unusedVariables false
set_option linter.unusedSimpArgs false
set_option maxRecDepth 4000
set_option maxHeartbeats 1000000
namespace Go.Proofs.YtB
open Go Go.RowKit Go.Proofs Go.Proofs.YtbhaeajdabgnhaaW.PrintWords
/-! f68 -/
noncomputable def impl_multiply_l15 (a0 : Int) (a1 : List (List Int)) (a2 : List (List Int)) (s2 : Int) (s12 : Int) (s16 : Int) (s17 : List Int) : Option (LR (Int × (List Int)) (List (List Int))) :=
  if (decide (s16 < ((gl [] a1 s2).length : Int))) = true then (if 0 ≤ s16 ∧ s16 < ((gl [] a1 s2).length : Int) then (if 0 ≤ s12 ∧ s12 < (s17.length : Int) then (if 0 ≤ s16 ∧ s16 < (a2.length : Int) then (if 0 ≤ s12 ∧ s12 < ((gl [] a2 s16).length : Int) then (if a0 ≠ 0 then (some (.next (w64 (s16 + 1), (s17.set s12.toNat ((w64 ((gl 0 s17 s12) + (w64 ((gl 0 (gl [] a1 s2) s16) * (gl 0 (gl [] a2 s16) s12))))).tmod a0))))) else none) else none) else none) else none) else none) else (some (.stop (s16, s17)))
noncomputable def impl_multiply_l11 (a0 : Int) (a1 : List (List Int)) (a2 : List (List Int)) (s2 : Int) (s12 : Int) (s13 : List Int) : Option (LR (Int × (List Int)) (List (List Int))) :=
  if (decide (s12 < ((List.replicate ((gl [] a2 (0 : Int)).length : Int).toNat (0 : Int)).length : Int))) = true then ((iter (fun s => impl_multiply_l15 a0 a1 a2 s2 s12 s.1 s.2) (0, s13)).bind fun o => match o with | .stop (s16, s17) => (some (.next (w64 (s12 + 1), s17))) | .ret r => some (.ret r) | .next _ => none) else (some (.stop (s12, s13)))
noncomputable def impl_multiply_l1 (a0 : Int) (a1 : List (List Int)) (a2 : List (List Int)) (s2 : Int) (s3 : List (List Int)) : Option (LR (Int × (List (List Int))) (List (List Int))) :=
  if (decide (s2 < (a1.length : Int))) = true then (if 0 ≤ s2 ∧ s2 < (a1.length : Int) then (if 0 ≤ (0 : Int) ∧ (0 : Int) < (a2.length : Int) then (if 0 ≤ ((gl [] a2 (0 : Int)).length : Int) ∧ ((gl [] a2 (0 : Int)).length : Int) * 8 ≤ 281474976710656 then ((iter (fun s => impl_multiply_l11 a0 a1 a2 s2 s.1 s.2) (0, (List.replicate ((gl [] a2 (0 : Int)).length : Int).toNat (0 : Int)))).bind fun o => match o with | .stop (s12, s13) => (if (s3.length + ([s13]).length) * 24 ≤ 140737488355328 then (some (.next (w64 (s2 + 1), (s3 ++ [s13])))) else none) | .ret r => some (.ret r) | .next _ => none) else none) else none) else none) else (some (.stop (s2, s3)))
noncomputable def impl_multiply (a0 : Int) (a1 : List (List Int)) (a2 : List (List Int)) : Option (List (List Int)) :=
  (iter (fun s => impl_multiply_l1 a0 a1 a2 s.1 s.2) (0, ([] : List (List Int)))).bind fun o => match o with | .stop (s2, s3) => (some (s3)) | .ret r => some r | .next _ => none
theorem impl_multiply_ok {w0 : World} {a0 : Int} {a1 : List (List Int)} {a2 : List (List Int)} {va1 : Value} {va2 : Value} (h1 : Ro (Kd.slice 2 (kf fI64)) w0 va1 a1) (h2 : Ro (Kd.slice 2 (kf fI64)) w0 va2 a2) {r : List (List Int)} (hF : impl_multiply a0 a1 a2 = some r) :
    Calls Try.prog 68 [vI a0, va1, va2].toArray w0 fun e w => ∃ v, e = .returned v ∧ Below w0.heap.size w0 w ∧ ∃ u0, u0 = v ∧ Fresh (Kd.slice 2 (kf fI64)) 36 w0 w u0 r := by
  refine calls_of (k := 65) Try.func68 rfl rfl (Nat.le_of_ble_eq_true rfl) fun a hf => ?_
  replace hf : Fr 65 a [(0, vI a0), (1, va1), (2, va2)] := hf
  refine c_start fun w ρ hw => ?_
  unfold impl_multiply at hF
  refine c_seq <| c_region ?_
  have o1 : Ow (Kd.slice 2 (kf fI64)) 36 ρ w w0.heap.size 1 (.slice none 0 0) [] := Ow.nil _ _ _ _ _ _
  refine s_ hf (r_assign hf rfl) fun a hf => ?_
  refine c_nt <| c_seq <| c_region ?_
  refine sx_ hf (r_lit_none (d := (Kd.slice 2 (kf fI64))) 2 Try.underlying24 el36 hw) fun a v2 w hf hΦ => ?_
  obtain ⟨ρ, hw, hE, o2⟩ := hΦ
  replace o1 := o1.ext hE
  refine s_ hf (r_assign hf rfl) fun a hf => ?_
  refine c_nt <| c_seq <| c_seq <| c_region ?_
  refine s_ hf (r_move hf rfl) fun a hf => ?_
  refine s_ hf (r_len Try.underlying24 (h1.now hw) hf rfl) fun a hf => ?_
  refine s_ hf (r_move hf rfl) fun a hf => ?_
  refine c_nt ?_
  obtain ⟨ol1, ho1, hG1⟩ := of_bind hF
  clear hF
  refine c_block (c_loop (id := 0) (fun s => impl_multiply_l1 a0 a1 a2 s.1 s.2) (fun (s : Int × (List (List Int))) a w => match s with | (s2, s3) => ∃ ρ vv4, Wd w0 ρ w ∧ Fr 65 a [(0, vI a0), (2, va2), (7, vv4), (15, va1), (16, vI (a1.length : Int)), (17, vI s2)] ∧ O36 ρ w w0 2 vv4 s3) (fun (s : Int × (List (List Int))) a w => match s with | (s2, s3) => ∃ ρ vv4, Wd w0 ρ w ∧ Fr 65 a [(7, vv4)] ∧ O36 ρ w w0 2 vv4 s3) ho1 ⟨_, _, hw, hf.sub ⟨rfl, rfl, rfl, rfl, rfl, rfl, trivial⟩, o2⟩ ?_ ?_)
  · rintro ⟨s2, s3⟩ lr a w ⟨ρ, vv4, hw, hf, o2⟩ hF
    replace hF : impl_multiply_l1 a0 a1 a2 s2 s3 = some lr := hF
    unfold impl_multiply_l1 at hF
    refine c_seq <| c_region ?_
    refine s_ hf (r_lss hf rfl rfl) fun a hf => ?_
    refine c_nt <| c_seq ?_
    rcases of_ite hF with ⟨hb5, hF⟩ | ⟨hb5, hF⟩
    rotate_left
    · refine c_iff hf rfl hb5 <| c_exit <| x_then ?_
      obtain rfl := Option.some.inj hF
      exact Rnd.stops ⟨_, _, hw, hf.sub ⟨rfl, trivial⟩, o2⟩
    refine c_ift hf rfl hb5 <| c_skip <| n_then <| c_seq <| c_block <| c_seq <| c_region ?_
    obtain ⟨hc6, hF⟩ := of_guard hF
    obtain ⟨ad7, c7, u7, he7, hl7, ho7⟩ := Ro.el_row h1 hc6.1 hc6.2
    refine s_ hf (r_idx Try.underlying24 sz36 hf rfl ⟨_, he7⟩ rfl hc6.1 hc6.2) fun a hf => ?_
    refine s_ hf (r_load_cell ty36 hf rfl (hl7.below hw.below)) fun a hf => ?_
    refine s_ hf (r_assign hf rfl) fun a hf => ?_
    refine c_nt <| c_seq <| c_region ?_
    refine s_ hf (r_move hf rfl) fun a hf => ?_
    obtain ⟨hc8, hF⟩ := of_guard hF
    obtain ⟨ad9, c9, u9, he9, hl9, ho9⟩ := Ro.el_row h2 hc8.1 hc8.2
    refine s_ hf (r_idx Try.underlying24 sz36 hf rfl ⟨_, he9⟩ rfl hc8.1 hc8.2) fun a hf => ?_
    refine s_ hf (r_load_cell ty36 hf rfl (hl9.below hw.below)) fun a hf => ?_
    refine s_ hf (r_len Try.underlying36 (ho9.now hw) hf rfl) fun a hf => ?_
    obtain ⟨hc10, hF⟩ := of_guard hF
    refine sx_ hf (r_make (d := fI64) (z0 := 0) 3 Try.underlying36 el2 rfl hw hf rfl hc10.1 (mk_le hc10.1 hc10.2)) fun a v3 w hf hΦ => ?_
    obtain ⟨ρ, hw, hE, o3⟩ := hΦ
    replace o2 := o2.ext hE
    refine s_ hf (r_assign hf rfl) fun a hf => ?_
    refine c_nt <| c_seq <| c_seq <| c_region ?_
    refine s_ hf (r_move hf rfl) fun a hf => ?_
    refine s_ hf (r_len Try.underlying36 o3.ro hf rfl) fun a hf => ?_
    refine s_ hf (r_move hf rfl) fun a hf => ?_
    refine c_nt ?_
    obtain ⟨ol11, ho11, hG11⟩ := of_bind hF
    clear hF
    refine c_block (c_loop (id := 2) (fun s => impl_multiply_l11 a0 a1 a2 s2 s.1 s.2) (fun (s : Int × (List Int)) a w => match s with | (s12, s13) => ∃ ρ, Wd w0 ρ w ∧ Fr 65 a [(0, vI a0), (2, va2), (7, vv4), (9, u7), (10, v3), (15, va1), (16, vI (a1.length : Int)), (17, vI s2), (27, vI ((List.replicate ((gl [] a2 (0 : Int)).length : Int).toNat (0 : Int)).length : Int)), (28, vI s12)] ∧ O36 ρ w w0 2 vv4 s3 ∧ O2 ρ w w0 3 v3 s13) (fun (s : Int × (List Int)) a w => match s with | (s12, s13) => ∃ ρ, Wd w0 ρ w ∧ Fr 65 a [(0, vI a0), (2, va2), (7, vv4), (10, v3), (15, va1), (16, vI (a1.length : Int)), (17, vI s2)] ∧ O36 ρ w w0 2 vv4 s3 ∧ O2 ρ w w0 3 v3 s13) ho11 ⟨_, hw, hf.sub ⟨rfl, rfl, rfl, rfl, rfl, rfl, rfl, rfl, rfl, rfl, trivial⟩, o2, o3⟩ ?_ ?_)
    · rintro ⟨s12, s13⟩ lr a w ⟨ρ, hw, hf, o2, o3⟩ hF
      replace hF : impl_multiply_l11 a0 a1 a2 s2 s12 s13 = some lr := hF
      unfold impl_multiply_l11 at hF
      refine c_seq <| c_region ?_
      refine s_ hf (r_lss hf rfl rfl) fun a hf => ?_
      refine c_nt <| c_seq ?_
      rcases of_ite hF with ⟨hb14, hF⟩ | ⟨hb14, hF⟩
      rotate_left
      · refine c_iff hf rfl hb14 <| c_exit <| x_then ?_
        obtain rfl := Option.some.inj hF
        exact Rnd.stops ⟨_, hw, hf.sub ⟨rfl, rfl, rfl, rfl, rfl, rfl, rfl, trivial⟩, o2, o3⟩
      refine c_ift hf rfl hb14 <| c_skip <| n_then <| c_seq <| c_block <| c_seq <| c_region ?_
      refine s_ hf (r_move hf rfl) fun a hf => ?_
      refine s_ hf (r_assign hf rfl) fun a hf => ?_
      refine c_nt <| c_seq <| c_region ?_
      refine s_ hf (r_move hf rfl) fun a hf => ?_
      refine s_ hf (r_len Try.underlying36 (ho7.now hw) hf rfl) fun a hf => ?_
      refine s_ hf (r_move hf rfl) fun a hf => ?_
      refine c_nt ?_
      obtain ⟨ol15, ho15, hG15⟩ := of_bind hF
      clear hF
      refine c_block (c_loop (id := 4) (fun s => impl_multiply_l15 a0 a1 a2 s2 s12 s.1 s.2) (fun (s : Int × (List Int)) a w => match s with | (s16, s17) => ∃ ρ, Wd w0 ρ w ∧ Fr 65 a [(0, vI a0), (2, va2), (7, vv4), (9, u7), (10, v3), (11, vI s12), (15, va1), (16, vI (a1.length : Int)), (17, vI s2), (27, vI ((List.replicate ((gl [] a2 (0 : Int)).length : Int).toNat (0 : Int)).length : Int)), (28, vI s12), (31, u7), (32, vI ((gl [] a1 s2).length : Int)), (33, vI s16)] ∧ O36 ρ w w0 2 vv4 s3 ∧ O2 ρ w w0 3 v3 s17) (fun (s : Int × (List Int)) a w => match s with | (s16, s17) => ∃ ρ, Wd w0 ρ w ∧ Fr 65 a [(0, vI a0), (2, va2), (7, vv4), (9, u7), (10, v3), (15, va1), (16, vI (a1.length : Int)), (17, vI s2), (27, vI ((List.replicate ((gl [] a2 (0 : Int)).length : Int).toNat (0 : Int)).length : Int)), (28, vI s12)] ∧ O36 ρ w w0 2 vv4 s3 ∧ O2 ρ w w0 3 v3 s17) ho15 ⟨_, hw, hf.sub ⟨rfl, rfl, rfl, rfl, rfl, rfl, rfl, rfl, rfl, rfl, rfl, rfl, rfl, rfl, trivial⟩, o2, o3⟩ ?_ ?_)
      · rintro ⟨s16, s17⟩ lr a w ⟨ρ, hw, hf, o2, o3⟩ hF
        replace hF : impl_multiply_l15 a0 a1 a2 s2 s12 s16 s17 = some lr := hF
        unfold impl_multiply_l15 at hF
        refine c_seq <| c_region ?_
        refine s_ hf (r_lss hf rfl rfl) fun a hf => ?_
        refine c_nt <| c_seq ?_
        rcases of_ite hF with ⟨hb18, hF⟩ | ⟨hb18, hF⟩
        rotate_left
        · refine c_iff hf rfl hb18 <| c_exit <| x_then ?_
          obtain rfl := Option.some.inj hF
          exact Rnd.stops ⟨_, hw, hf.sub ⟨rfl, rfl, rfl, rfl, rfl, rfl, rfl, rfl, rfl, rfl, trivial⟩, o2, o3⟩
        refine c_ift hf rfl hb18 <| c_skip <| n_then <| c_seq <| c_block <| c_seq <| c_region ?_
        refine s_ hf (r_move hf rfl) fun a hf => ?_
        obtain ⟨hc19, hF⟩ := of_guard hF
        obtain ⟨ad20, c20, he20, hl20⟩ := Ro.el fI64 ho7 0 hc19.1 hc19.2
        refine s_ hf (r_idx Try.underlying36 sz2 hf rfl ⟨_, he20⟩ rfl hc19.1 hc19.2) fun a hf => ?_
        refine s_ hf (r_load_cell ty2 hf rfl (hl20.below hw.below)) fun a hf => ?_
        refine s_ hf (r_assign hf rfl) fun a hf => ?_
        refine s_ hf (r_assign hf rfl) fun a hf => ?_
        refine c_nt ?_
        obtain ⟨hc21, hF⟩ := of_guard hF
        obtain ⟨hc23, hF⟩ := of_guard hF
        obtain ⟨ad24, c24, u24, he24, hl24, ho24⟩ := Ro.el_row h2 hc23.1 hc23.2
        obtain ⟨hc25, hF⟩ := of_guard hF
        obtain ⟨ad26, c26, he26, hl26⟩ := Ro.el fI64 ho24 0 hc25.1 hc25.2
        obtain ⟨hc27, hF⟩ := of_guard hF
        replace hf : Fr 65 a [(0, vI a0), (2, va2), (7, vv4), (9, u7), (10, v3), (11, vI s12), (12, vI s16), (13, vI (gl 0 (gl [] a1 s2) s16)), (15, va1), (16, vI (a1.length : Int)), (17, vI s2), (27, vI ((List.replicate ((gl [] a2 (0 : Int)).length : Int).toNat (0 : Int)).length : Int)), (28, vI s12), (31, u7), (32, vI ((gl [] a1 s2).length : Int)), (33, vI s16)] := hf.sub ⟨rfl, rfl, rfl, rfl, rfl, rfl, rfl, rfl, rfl, rfl, rfl, rfl, rfl, rfl, rfl, rfl, trivial⟩
        refine c_drawL (h := 18) mixed (by kernel_rfl) (by kernel_rfl) (fun ρ w => O36 ρ w w0 2 vv4 s3 ∧ O2 ρ w w0 3 v3 s17) ?_ [fun ρ w v => v3 = v, fun ρ w v => vI s12 = v, fun ρ w v => v3 = v, fun ρ w v => vI s12 = v, fun ρ w v => ∃ ad22, .pointer (some (ad22.add (s12.toNat * 1))) = v ∧ Ce ρ w 3 v3 s17.length ad22 (s12.toNat * 1) (fI64.enc (gl 0 s17 s12)), fun ρ w v => vI (gl 0 s17 s12) = v, fun ρ w v => vI (gl 0 (gl [] a1 s2) s16) = v, fun ρ w v => va2 = v, fun ρ w v => vI s16 = v, fun ρ w v => .pointer (some (ad24.add (s16.toNat * 1))) = v, fun ρ w v => u24 = v, fun ρ w v => vI s12 = v, fun ρ w v => .pointer (some (ad26.add (s12.toNat * 1))) = v, fun ρ w v => vI (gl 0 (gl [] a2 s16) s12) = v, fun ρ w v => vI (w64 ((gl 0 (gl [] a1 s2) s16) * (gl 0 (gl [] a2 s16) s12))) = v, fun ρ w v => vI (w64 ((gl 0 s17 s12) + (w64 ((gl 0 (gl [] a1 s2) s16) * (gl 0 (gl [] a2 s16) s12))))) = v, fun ρ w v => vI a0 = v, fun ρ w v => vI ((w64 ((gl 0 s17 s12) + (w64 ((gl 0 (gl [] a1 s2) s16) * (gl 0 (gl [] a2 s16) s12))))).tmod a0) = v] ?_ hw ⟨o2, o3⟩ hf ?_ ?_
        · intro ρ w ρ' w' hE hG
          obtain ⟨o2, o3⟩ := hG
          exact ⟨o2.ext hE, o3.ext hE⟩
        · exact LastsL.cons (fun _ _ _ _ _ _ h => h) <| LastsL.cons (fun _ _ _ _ _ _ h => h) <| LastsL.cons (fun _ _ _ _ _ _ h => h) <| LastsL.cons (fun _ _ _ _ _ _ h => h) <| LastsL.cons (fun _ _ _ _ _ hE h => by obtain ⟨ad22, h, hl22⟩ := h; exact ⟨_, h, hl22.ext hE⟩) <| LastsL.cons (fun _ _ _ _ _ _ h => h) <| LastsL.cons (fun _ _ _ _ _ _ h => h) <| LastsL.cons (fun _ _ _ _ _ _ h => h) <| LastsL.cons (fun _ _ _ _ _ _ h => h) <| LastsL.cons (fun _ _ _ _ _ _ h => h) <| LastsL.cons (fun _ _ _ _ _ _ h => h) <| LastsL.cons (fun _ _ _ _ _ _ h => h) <| LastsL.cons (fun _ _ _ _ _ _ h => h) <| LastsL.cons (fun _ _ _ _ _ _ h => h) <| LastsL.cons (fun _ _ _ _ _ _ h => h) <| LastsL.cons (fun _ _ _ _ _ _ h => h) <| LastsL.cons (fun _ _ _ _ _ _ h => h) <| LastsL.cons (fun _ _ _ _ _ _ h => h) <| LastsL.nil
        · refine StepsB.cons ?_ <| StepsB.cons ?_ <| StepsB.cons ?_ <| StepsB.cons ?_ <| StepsB.cons ?_ <| StepsB.cons ?_ <| StepsB.cons ?_ <| StepsB.cons ?_ <| StepsB.cons ?_ <| StepsB.cons ?_ <| StepsB.cons ?_ <| StepsB.cons ?_ <| StepsB.cons ?_ <| StepsB.cons ?_ <| StepsB.cons ?_ <| StepsB.cons ?_ <| StepsB.cons ?_ <| StepsB.cons ?_ <| StepsB.nil
          · intro ρ w a hw hG hf hd K hK
            obtain ⟨o2, o3⟩ := hG
            exact dv_ hK hw (wn rfl) (r_move hf rfl) rfl
          · intro ρ w a hw hG hf hd K hK
            obtain ⟨o2, o3⟩ := hG
            exact dv_ hK hw (wn rfl) (r_move hf rfl) rfl
          · intro ρ w a hw hG hf hd K hK
            obtain ⟨o2, o3⟩ := hG
            exact dv_ hK hw (wn rfl) (r_move hf rfl) rfl
          · intro ρ w a hw hG hf hd K hK
            obtain ⟨o2, o3⟩ := hG
            exact dv_ hK hw (wn rfl) (r_move hf rfl) rfl
          · intro ρ w a hw hG hf hd K hK
            obtain ⟨o2, o3⟩ := hG
            obtain ⟨_, hf, rfl⟩ := got (hd 2 (by kernel_rfl)) hf
            obtain ⟨_, hf, rfl⟩ := got (hd 3 (by kernel_rfl)) hf
            obtain ⟨ad22, hl22⟩ := Ow.ce (d := fI64) o3 0 hc21.1 hc21.2
            exact dv_ hK hw (wn rfl) (r_idx Try.underlying36 sz2 hf rfl hl22.at_ rfl hc21.1 hc21.2) (ex_ <| an_ rfl <| hl22)
          · intro ρ w a hw hG hf hd K hK
            obtain ⟨o2, o3⟩ := hG
            obtain ⟨_, hf, ⟨ad22, rfl, hl22⟩⟩ := got (hd 4 (by kernel_rfl)) hf
            exact dv_ hK hw (wn rfl) (r_load_cell ty2 hf rfl hl22.co.cl) rfl
          · intro ρ w a hw hG hf hd K hK
            obtain ⟨o2, o3⟩ := hG
            exact dv_ hK hw (wn rfl) (r_move hf rfl) rfl
          · intro ρ w a hw hG hf hd K hK
            obtain ⟨o2, o3⟩ := hG
            exact dv_ hK hw (wn rfl) (r_move hf rfl) rfl
          · intro ρ w a hw hG hf hd K hK
            obtain ⟨o2, o3⟩ := hG
            exact dv_ hK hw (wn rfl) (r_move hf rfl) rfl
          · intro ρ w a hw hG hf hd K hK
            obtain ⟨o2, o3⟩ := hG
            obtain ⟨_, hf, rfl⟩ := got (hd 7 (by kernel_rfl)) hf
            obtain ⟨_, hf, rfl⟩ := got (hd 8 (by kernel_rfl)) hf
            exact dv_ hK hw (wn rfl) (r_idx Try.underlying24 sz36 hf rfl ⟨_, he24⟩ rfl hc23.1 hc23.2) rfl
          · intro ρ w a hw hG hf hd K hK
            obtain ⟨o2, o3⟩ := hG
            obtain ⟨_, hf, rfl⟩ := got (hd 9 (by kernel_rfl)) hf
            exact dv_ hK hw (wn rfl) (r_load_cell ty36 hf rfl (hl24.below hw.below)) rfl
          · intro ρ w a hw hG hf hd K hK
            obtain ⟨o2, o3⟩ := hG
            exact dv_ hK hw (wn rfl) (r_move hf rfl) rfl
          · intro ρ w a hw hG hf hd K hK
            obtain ⟨o2, o3⟩ := hG
            obtain ⟨_, hf, rfl⟩ := got (hd 10 (by kernel_rfl)) hf
            obtain ⟨_, hf, rfl⟩ := got (hd 11 (by kernel_rfl)) hf
            exact dv_ hK hw (wn rfl) (r_idx Try.underlying36 sz2 hf rfl ⟨_, he26⟩ rfl hc25.1 hc25.2) rfl
          · intro ρ w a hw hG hf hd K hK
            obtain ⟨o2, o3⟩ := hG
            obtain ⟨_, hf, rfl⟩ := got (hd 12 (by kernel_rfl)) hf
            exact dv_ hK hw (wn rfl) (r_load_cell ty2 hf rfl (hl26.below hw.below)) rfl
          · intro ρ w a hw hG hf hd K hK
            obtain ⟨o2, o3⟩ := hG
            obtain ⟨_, hf, rfl⟩ := got (hd 6 (by kernel_rfl)) hf
            obtain ⟨_, hf, rfl⟩ := got (hd 13 (by kernel_rfl)) hf
            exact dv_ hK hw (wn rfl) (r_mul hf rfl rfl) rfl
          · intro ρ w a hw hG hf hd K hK
            obtain ⟨o2, o3⟩ := hG
            obtain ⟨_, hf, rfl⟩ := got (hd 5 (by kernel_rfl)) hf
            obtain ⟨_, hf, rfl⟩ := got (hd 14 (by kernel_rfl)) hf
            exact dv_ hK hw (wn rfl) (r_add hf rfl rfl) rfl
          · intro ρ w a hw hG hf hd K hK
            obtain ⟨o2, o3⟩ := hG
            exact dv_ hK hw (wn rfl) (r_move hf rfl) rfl
          · intro ρ w a hw hG hf hd K hK
            obtain ⟨o2, o3⟩ := hG
            obtain ⟨_, hf, rfl⟩ := got (hd 15 (by kernel_rfl)) hf
            obtain ⟨_, hf, rfl⟩ := got (hd 16 (by kernel_rfl)) hf
            exact dv_ hK hw (wn rfl) (r_rem hf rfl rfl hc27) rfl
        intro ρ w a hw hG hf hd
        obtain ⟨o2, o3⟩ := hG
        obtain ⟨_, hf, rfl⟩ := got (hd 0 (by decide)) hf
        obtain ⟨_, hf, rfl⟩ := got (hd 1 (by decide)) hf
        obtain ⟨_, hf, rfl⟩ := got (hd 17 (by decide)) hf
        obtain ⟨ad28, hl28⟩ := Ow.ce (d := fI64) o3 0 hc21.1 hc21.2
        refine s_ hf (r_idx Try.underlying36 sz2 hf rfl hl28.at_ rfl hc21.1 hc21.2) fun a hf => ?_
        refine sk_ hf (r_store_ec (b := (w64 ((gl 0 s17 s12) + (w64 ((gl 0 (gl [] a1 s2) s16) * (gl 0 (gl [] a2 s16) s12))))).tmod a0) 0 hw (by decide) o3 hc21.1 hc21.2 (Lens.id _) hl28.at_ ty2 (by first | rfl | exact Nat.add_assoc _ _ _ | (simp only [Nat.add_assoc]; rfl)) hf rfl rfl rfl) fun a w hf hΦ => ?_
        obtain ⟨hw, hA, o3⟩ := hΦ
        replace o2 := o2.adv hA (by decide)
        refine c_nil <| n_block <| n_then <| c_region ?_
        refine s_ hf (r_add hf rfl rfl) fun a hf => ?_
        refine s_ hf (r_move hf rfl) fun a hf => ?_
        refine c_nil ?_
        obtain rfl := Option.some.inj hF
        exact Rnd.goes ⟨_, hw, hf.sub ⟨rfl, rfl, rfl, rfl, rfl, rfl, rfl, rfl, rfl, rfl, rfl, rfl, rfl, rfl, trivial⟩, o2, o3⟩
      rintro ⟨s16, s17⟩ a w hs ⟨ρ, hw, hf, o2, o3⟩
      subst hs
      have hF := hG15
      dsimp only at hF
      refine x_block <| n_block <| n_then <| c_region ?_
      refine s_ hf (r_add hf rfl rfl) fun a hf => ?_
      refine s_ hf (r_move hf rfl) fun a hf => ?_
      refine c_nil ?_
      obtain rfl := Option.some.inj hF
      exact Rnd.goes ⟨_, hw, hf.sub ⟨rfl, rfl, rfl, rfl, rfl, rfl, rfl, rfl, rfl, rfl, trivial⟩, o2, o3⟩
    rintro ⟨s12, s13⟩ a w hs ⟨ρ, hw, hf, o2, o3⟩
    subst hs
    have hF := hG11
    dsimp only at hF
    refine x_block <| n_then <| c_region ?_
    refine s_ hf (r_move hf rfl) fun a hf => ?_
    refine s_ hf (r_move hf rfl) fun a hf => ?_
    refine sx_ hf (r_lit_row 6 Try.underlying24 el36 hw (by decide) hf rfl o3) fun a v6 w hf hΦ => ?_
    obtain ⟨ρ, hw, hT, hB, o6⟩ := hΦ
    replace o2 := o2.tr (hT 2 (by decide))
    obtain ⟨hc29, hF⟩ := of_guard hF
    refine sx_ hf (r_append_own Try.underlying24 el36 hw (by decide) (by decide) (by decide) o2 o6 hc29 hf rfl rfl) fun a va30 w hf hΦ => ?_
    obtain ⟨ρ, hw, hT, o2⟩ := hΦ
    refine s_ hf (r_assign hf rfl) fun a hf => ?_
    refine c_nil <| n_block <| n_then <| c_region ?_
    refine s_ hf (r_add hf rfl rfl) fun a hf => ?_
    refine s_ hf (r_move hf rfl) fun a hf => ?_
    refine c_nil ?_
    obtain rfl := Option.some.inj hF
    exact Rnd.goes ⟨_, _, hw, hf.sub ⟨rfl, rfl, rfl, rfl, rfl, rfl, trivial⟩, o2⟩
  rintro ⟨s2, s3⟩ a w hs ⟨ρ, vv4, hw, hf, o2⟩
  subst hs
  have hF := hG1
  dsimp only at hF
  refine x_block <| n_then <| c_seq <| c_region ?_
  refine s_ hf (r_move hf rfl) fun a hf => ?_
  refine s_ hf (r_assign hf rfl) fun a hf => ?_
  refine c_nt <| c_retc ?_
  obtain rfl := Option.some.inj hF
  refine c_ret hf (res_tmp Try.results68 hf rfl) ?_
  exact ⟨_, rfl, hw.below, ⟨_, rfl, o2.out⟩⟩
/-! f115 -/
noncomputable def impl_areNumbers_l1 (a0 : Int) (a1 : List Int) (s2 : Int) : Option (LR Int Bool) :=
  if (decide (s2 < (a1.length : Int))) = true then (if 0 ≤ s2 ∧ s2 < (a1.length : Int) then ((if (decide ((gl 0 a1 s2) < 0)) = true then (some true) else (some (decide (a0 ≤ (gl 0 a1 s2))))).bind fun (s7 : Bool) => if s7 = true then (some (.ret false)) else (some (.next (w64 (s2 + 1))))) else none) else (some (.stop s2))
noncomputable def impl_areNumbers (a0 : Int) (a1 : List Int) : Option Bool :=
  (iter (fun s => impl_areNumbers_l1 a0 a1 s) 0).bind fun o => match o with | .stop s2 => (some (true)) | .ret r => some r | .next _ => none
theorem impl_areNumbers_ok {w0 : World} {a0 : Int} {a1 : List Int} {va1 : Value} (h1 : Ro (kf fI64) w0 va1 a1) {r : Bool} (hF : impl_areNumbers a0 a1 = some r) :
    Calls Try.prog 115 [vI a0, va1].toArray w0 fun e w => ∃ v, e = .returned v ∧ Below w0.heap.size w0 w ∧ .bool r = v := by
  refine calls_of (k := 21) Try.func115 rfl rfl (Nat.le_of_ble_eq_true rfl) fun a hf => ?_
  replace hf : Fr 21 a [(0, vI a0), (1, va1)] := hf
  refine c_start fun w ρ hw => ?_
  unfold impl_areNumbers at hF
  refine c_seq <| c_region ?_
  refine s_ hf (r_assign hf rfl) fun a hf => ?_
  refine c_nt <| c_seq <| c_seq <| c_region ?_
  refine s_ hf (r_move hf rfl) fun a hf => ?_
  refine s_ hf (r_len Try.underlying36 (h1.now hw) hf rfl) fun a hf => ?_
  refine s_ hf (r_move hf rfl) fun a hf => ?_
  refine c_nt ?_
  obtain ⟨ol1, ho1, hG1⟩ := of_bind hF
  clear hF
  refine c_block (c_loop (id := 0) (fun s => impl_areNumbers_l1 a0 a1 s) (fun (s2 : Int) a w => ∃ ρ, Wd w0 ρ w ∧ Fr 21 a [(0, vI a0), (7, va1), (8, vI (a1.length : Int)), (9, vI s2)]) (fun (s2 : Int) a w => ∃ ρ, Wd w0 ρ w ∧ Fr 21 a []) ho1 ⟨_, hw, hf.sub ⟨rfl, rfl, rfl, rfl, trivial⟩⟩ ?_ ?_)
  · rintro s2 lr a w ⟨ρ, hw, hf⟩ hF
    replace hF : impl_areNumbers_l1 a0 a1 s2 = some lr := hF
    unfold impl_areNumbers_l1 at hF
    refine c_seq <| c_region ?_
    refine s_ hf (r_lss hf rfl rfl) fun a hf => ?_
    refine c_nt <| c_seq ?_
    rcases of_ite hF with ⟨hb3, hF⟩ | ⟨hb3, hF⟩
    rotate_left
    · refine c_iff hf rfl hb3 <| c_exit <| x_then ?_
      obtain rfl := Option.some.inj hF
      exact Rnd.stops ⟨_, hw, hf.sub trivial⟩
    refine c_ift hf rfl hb3 <| c_skip <| n_then <| c_seq <| c_block <| c_seq <| c_region ?_
    obtain ⟨hc4, hF⟩ := of_guard hF
    obtain ⟨ad5, c5, he5, hl5⟩ := Ro.el fI64 h1 0 hc4.1 hc4.2
    refine s_ hf (r_idx Try.underlying36 sz2 hf rfl ⟨_, he5⟩ rfl hc4.1 hc4.2) fun a hf => ?_
    refine s_ hf (r_load_cell ty2 hf rfl (hl5.below hw.below)) fun a hf => ?_
    refine s_ hf (r_assign hf rfl) fun a hf => ?_
    refine c_nt <| c_seq ?_
    obtain ⟨s7, hT6, hG6⟩ := of_bind hF
    clear hF
    refine c_meet (fun (s7 : Bool) a w => ∃ ρ, Wd w0 ρ w ∧ Fr 21 a [(0, vI a0), (7, va1), (8, vI (a1.length : Int)), (9, vI s2), (19, .bool s7)]) s7 ?_ ?_
    · have hF := hT6
      refine c_region ?_
      refine s_ hf (r_move hf rfl) fun a hf => ?_
      refine s_ hf (r_lss hf rfl rfl) fun a hf => ?_
      refine s_ hf (r_move hf rfl) fun a hf => ?_
      rcases of_ite hF with ⟨hb8, hF⟩ | ⟨hb8, hF⟩
      · refine st_no (b := true) hf rfl rfl rfl hb8 rfl (by decide) fun a hf => ?_
        refine st_no (b := true) hf rfl rfl rfl hb8 rfl (by decide) fun a hf => ?_
        refine st_no (b := true) hf rfl rfl rfl hb8 rfl (by decide) fun a hf => ?_
        refine s_ hf (r_pick (b := true) hf rfl hb8 rfl) fun a hf => ?_
        refine c_nil ⟨rfl, ?_⟩
        obtain rfl := Option.some.inj hF
        exact ⟨_, hw, hf.sub ⟨rfl, rfl, rfl, rfl, rfl, trivial⟩⟩
      refine st_g (b := false) hf rfl rfl rfl hb8 rfl (by decide) (r_move hf rfl) fun a hf => ?_
      refine st_g (b := false) hf rfl rfl rfl hb8 rfl (by decide) (r_move hf rfl) fun a hf => ?_
      refine st_g (b := false) hf rfl rfl rfl hb8 rfl (by decide) (r_geq hf rfl rfl) fun a hf => ?_
      refine s_ hf (r_pick (b := false) hf rfl hb8 rfl) fun a hf => ?_
      refine c_nil ⟨rfl, ?_⟩
      obtain rfl := Option.some.inj hF
      exact ⟨_, hw, hf.sub ⟨rfl, rfl, rfl, rfl, rfl, trivial⟩⟩
    rintro a w ⟨ρ, hw, hf⟩
    have hF := hG6
    refine n_then ?_
    rcases of_ite hF with ⟨hb9, hF⟩ | ⟨hb9, hF⟩
    rotate_left
    · refine c_iff hf rfl hb9 <| c_skip <| n_block <| n_then <| c_region ?_
      refine s_ hf (r_add hf rfl rfl) fun a hf => ?_
      refine s_ hf (r_move hf rfl) fun a hf => ?_
      refine c_nil ?_
      obtain rfl := Option.some.inj hF
      exact Rnd.goes ⟨_, hw, hf.sub ⟨rfl, rfl, rfl, rfl, trivial⟩⟩
    refine c_ift hf rfl hb9 <| c_seq <| c_region ?_
    refine s_ hf (r_assign hf rfl) fun a hf => ?_
    refine c_nt <| c_retc ?_
    obtain rfl := Option.some.inj hF
    refine r_block <| r_then ?_
    refine Rnd.rets fun ho => ?_
    subst ho
    have hF := hG1
    dsimp only at hF
    obtain rfl := Option.some.inj hF
    refine r_block <| r_then <| c_ret hf (res_tmp Try.results115 hf rfl) ?_
    exact ⟨_, rfl, hw.below, rfl⟩
  rintro s2 a w hs ⟨ρ, hw, hf⟩
  subst hs
  have hF := hG1
  dsimp only at hF
  refine x_block <| n_then <| c_seq <| c_region ?_
  refine s_ hf (r_assign hf rfl) fun a hf => ?_
  refine c_nt <| c_retc ?_
  obtain rfl := Option.some.inj hF
  refine c_ret hf (res_tmp Try.results115 hf rfl) ?_
  exact ⟨_, rfl, hw.below, rfl⟩
/-! f67 -/
noncomputable def impl_isMatrix_l1 (a0 : Int) (a2 : Int) (a3 : List (List Int)) (s2 : Int) : Option (LR Int Bool) :=
  if (decide (s2 < (a3.length : Int))) = true then (if 0 ≤ s2 ∧ s2 < (a3.length : Int) then ((if (decide (((gl [] a3 s2).length : Int) ≠ a2)) = true then (some true) else ((impl_areNumbers a0 (gl [] a3 s2)).bind fun x9 => some (!x9))).bind fun (s7 : Bool) => if s7 = true then (some (.ret false)) else (some (.next (w64 (s2 + 1))))) else none) else (some (.stop s2))
noncomputable def impl_isMatrix (a0 : Int) (a1 : Int) (a2 : Int) (a3 : List (List Int)) : Option Bool :=
  (iter (fun s => impl_isMatrix_l1 a0 a2 a3 s) 0).bind fun o => match o with | .stop s2 => (some (decide ((a3.length : Int) = a1))) | .ret r => some r | .next _ => none
theorem impl_isMatrix_ok {w0 : World} {a0 : Int} {a1 : Int} {a2 : Int} {a3 : List (List Int)} {va3 : Value} (h3 : Ro (Kd.slice 2 (kf fI64)) w0 va3 a3) {r : Bool} (hF : impl_isMatrix a0 a1 a2 a3 = some r) :
    Calls Try.prog 67 [vI a0, vI a1, vI a2, va3].toArray w0 fun e w => ∃ v, e = .returned v ∧ Below w0.heap.size w0 w ∧ .bool r = v := by
  refine calls_of (k := 32) Try.func67 rfl rfl (Nat.le_of_ble_eq_true rfl) fun a hf => ?_
  replace hf : Fr 32 a [(0, vI a0), (1, vI a1), (2, vI a2), (3, va3)] := hf
  refine c_start fun w ρ hw => ?_
  unfold impl_isMatrix at hF
  refine c_seq <| c_region ?_
  refine s_ hf (r_assign hf rfl) fun a hf => ?_
  refine c_nt <| c_seq <| c_seq <| c_region ?_
  refine s_ hf (r_move hf rfl) fun a hf => ?_
  refine s_ hf (r_len Try.underlying24 (h3.now hw) hf rfl) fun a hf => ?_
  refine s_ hf (r_move hf rfl) fun a hf => ?_
  refine c_nt ?_
  obtain ⟨ol1, ho1, hG1⟩ := of_bind hF
  clear hF
  refine c_block (c_loop (id := 0) (fun s => impl_isMatrix_l1 a0 a2 a3 s) (fun (s2 : Int) a w => ∃ ρ, Wd w0 ρ w ∧ Fr 32 a [(0, vI a0), (1, vI a1), (2, vI a2), (3, va3), (11, va3), (12, vI (a3.length : Int)), (13, vI s2)]) (fun (s2 : Int) a w => ∃ ρ, Wd w0 ρ w ∧ Fr 32 a [(1, vI a1), (3, va3)]) ho1 ⟨_, hw, hf.sub ⟨rfl, rfl, rfl, rfl, rfl, rfl, rfl, trivial⟩⟩ ?_ ?_)
  · rintro s2 lr a w ⟨ρ, hw, hf⟩ hF
    replace hF : impl_isMatrix_l1 a0 a2 a3 s2 = some lr := hF
    unfold impl_isMatrix_l1 at hF
    refine c_seq <| c_region ?_
    refine s_ hf (r_lss hf rfl rfl) fun a hf => ?_
    refine c_nt <| c_seq ?_
    rcases of_ite hF with ⟨hb3, hF⟩ | ⟨hb3, hF⟩
    rotate_left
    · refine c_iff hf rfl hb3 <| c_exit <| x_then ?_
      obtain rfl := Option.some.inj hF
      exact Rnd.stops ⟨_, hw, hf.sub ⟨rfl, rfl, trivial⟩⟩
    refine c_ift hf rfl hb3 <| c_skip <| n_then <| c_seq <| c_block <| c_seq <| c_region ?_
    obtain ⟨hc4, hF⟩ := of_guard hF
    obtain ⟨ad5, c5, u5, he5, hl5, ho5⟩ := Ro.el_row h3 hc4.1 hc4.2
    refine s_ hf (r_idx Try.underlying24 sz36 hf rfl ⟨_, he5⟩ rfl hc4.1 hc4.2) fun a hf => ?_
    refine s_ hf (r_load_cell ty36 hf rfl (hl5.below hw.below)) fun a hf => ?_
    refine s_ hf (r_assign hf rfl) fun a hf => ?_
    refine c_nt <| c_seq ?_
    obtain ⟨s7, hT6, hG6⟩ := of_bind hF
    clear hF
    refine c_meet (fun (s7 : Bool) a w => ∃ ρ, Wd w0 ρ w ∧ Fr 32 a [(0, vI a0), (1, vI a1), (2, vI a2), (3, va3), (11, va3), (12, vI (a3.length : Int)), (13, vI s2), (26, .bool s7)]) s7 ?_ ?_
    · have hF := hT6
      refine c_region ?_
      refine s_ hf (r_move hf rfl) fun a hf => ?_
      refine s_ hf (r_len Try.underlying36 (ho5.now hw) hf rfl) fun a hf => ?_
      refine s_ hf (r_move hf rfl) fun a hf => ?_
      refine s_ hf (r_neq hf rfl rfl) fun a hf => ?_
      refine s_ hf (r_move hf rfl) fun a hf => ?_
      rcases of_ite hF with ⟨hb8, hF⟩ | ⟨hb8, hF⟩
      · refine st_no (b := true) hf rfl rfl rfl hb8 rfl (by decide) fun a hf => ?_
        refine st_no (b := true) hf rfl rfl rfl hb8 rfl (by decide) fun a hf => ?_
        refine st_no (b := true) hf rfl rfl rfl hb8 rfl (by decide) fun a hf => ?_
        refine st_no (b := true) hf rfl rfl rfl hb8 rfl (by decide) fun a hf => ?_
        refine s_ hf (r_pick (b := true) hf rfl hb8 rfl) fun a hf => ?_
        refine c_nil ⟨rfl, ?_⟩
        obtain rfl := Option.some.inj hF
        exact ⟨_, hw, hf.sub ⟨rfl, rfl, rfl, rfl, rfl, rfl, rfl, rfl, trivial⟩⟩
      refine st_g (b := false) hf rfl rfl rfl hb8 rfl (by decide) (r_move hf rfl) fun a hf => ?_
      refine st_g (b := false) hf rfl rfl rfl hb8 rfl (by decide) (r_move hf rfl) fun a hf => ?_
      obtain ⟨x9, hx10, hF⟩ := of_bind hF
      refine st_gfn (b := false) 1 hw hf rfl rfl rfl hb8 rfl (by decide) (r_fn en115 hf rfl) (impl_areNumbers_ok (ho5.now hw) hx10) fun a v w ρ hf hw hE hN hΦ => ?_
      obtain rfl := hΦ
      refine st_g (b := false) hf rfl rfl rfl hb8 rfl (by decide) (r_not hf rfl) fun a hf => ?_
      refine s_ hf (r_pick (b := false) hf rfl hb8 rfl) fun a hf => ?_
      refine c_nil ⟨rfl, ?_⟩
      obtain rfl := Option.some.inj hF
      exact ⟨_, hw, hf.sub ⟨rfl, rfl, rfl, rfl, rfl, rfl, rfl, rfl, trivial⟩⟩
    rintro a w ⟨ρ, hw, hf⟩
    have hF := hG6
    refine n_then ?_
    rcases of_ite hF with ⟨hb11, hF⟩ | ⟨hb11, hF⟩
    rotate_left
    · refine c_iff hf rfl hb11 <| c_skip <| n_block <| n_then <| c_region ?_
      refine s_ hf (r_add hf rfl rfl) fun a hf => ?_
      refine s_ hf (r_move hf rfl) fun a hf => ?_
      refine c_nil ?_
      obtain rfl := Option.some.inj hF
      exact Rnd.goes ⟨_, hw, hf.sub ⟨rfl, rfl, rfl, rfl, rfl, rfl, rfl, trivial⟩⟩
    refine c_ift hf rfl hb11 <| c_seq <| c_region ?_
    refine s_ hf (r_assign hf rfl) fun a hf => ?_
    refine c_nt <| c_retc ?_
    obtain rfl := Option.some.inj hF
    refine r_block <| r_then ?_
    refine Rnd.rets fun ho => ?_
    subst ho
    have hF := hG1
    dsimp only at hF
    obtain rfl := Option.some.inj hF
    refine r_block <| r_then <| c_ret hf (res_tmp Try.results67 hf rfl) ?_
    exact ⟨_, rfl, hw.below, rfl⟩
  rintro s2 a w hs ⟨ρ, hw, hf⟩
  subst hs
  have hF := hG1
  dsimp only at hF
  refine x_block <| n_then <| c_seq <| c_region ?_
  refine s_ hf (r_move hf rfl) fun a hf => ?_
  refine s_ hf (r_len Try.underlying24 (h3.now hw) hf rfl) fun a hf => ?_
  refine s_ hf (r_move hf rfl) fun a hf => ?_
  refine s_ hf (r_eql hf rfl rfl) fun a hf => ?_
  refine s_ hf (r_assign hf rfl) fun a hf => ?_
  refine c_nt <| c_retc ?_
  obtain rfl := Option.some.inj hF
  refine c_ret hf (res_tmp Try.results67 hf rfl) ?_
  exact ⟨_, rfl, hw.below, rfl⟩
/-! f53 -/
noncomputable def impl_isSquare (a0 : Int) (a1 : List (List Int)) : Option Bool :=
  ((impl_isPrime a0).bind fun x3 => if x3 = true then ((impl_isSize ([(a1.length : Int)])).bind fun x6 => if x6 = true then ((impl_isMatrix a0 (a1.length : Int) (a1.length : Int) a1).bind fun x9 => some x9) else (some false)) else (some false)).bind fun (s2 : Bool) => some (s2)
theorem impl_isSquare_ok {w0 : World} {a0 : Int} {a1 : List (List Int)} {va1 : Value} (h1 : Ro (Kd.slice 2 (kf fI64)) w0 va1 a1) {r : Bool} (hF : impl_isSquare a0 a1 = some r) :
    Calls Try.prog 53 [vI a0, va1].toArray w0 fun e w => ∃ v, e = .returned v ∧ Below w0.heap.size w0 w ∧ .bool r = v := by
  refine calls_of (k := 22) Try.func53 rfl rfl (Nat.le_of_ble_eq_true rfl) fun a hf => ?_
  replace hf : Fr 22 a [(0, vI a0), (1, va1)] := hf
  refine c_start fun w ρ hw => ?_
  unfold impl_isSquare at hF
  refine c_seq <| c_region ?_
  refine s_ hf (r_assign hf rfl) fun a hf => ?_
  refine c_nt <| c_seq <| c_region ?_
  refine s_ hf (r_move hf rfl) fun a hf => ?_
  refine s_ hf (r_len Try.underlying24 (h1.now hw) hf rfl) fun a hf => ?_
  refine s_ hf (r_assign hf rfl) fun a hf => ?_
  refine c_nt <| c_seq ?_
  obtain ⟨s2, hT1, hG1⟩ := of_bind hF
  clear hF
  refine c_meet (fun (s2 : Bool) a w => ∃ ρ, Wd w0 ρ w ∧ Fr 22 a [(4, .bool s2)]) s2 ?_ ?_
  · have hF := hT1
    refine c_region ?_
    refine s_ hf (r_move hf rfl) fun a hf => ?_
    obtain ⟨x3, hx4, hF⟩ := of_bind hF
    refine st_fn 1 hw hf rfl rfl (by decide) (r_fn en62 hf rfl) (impl_isPrime_ok  hx4) fun a v w ρ hf hw hE hN hΦ => ?_
    obtain rfl := hΦ
    refine s_ hf (r_move hf rfl) fun a hf => ?_
    rcases of_ite hF with ⟨hb5, hF⟩ | ⟨hb5, hF⟩
    rotate_left
    · refine st_no (b := false) hf rfl rfl rfl hb5 rfl (by decide) fun a hf => ?_
      refine st_no (b := false) hf rfl rfl rfl hb5 rfl (by decide) fun a hf => ?_
      refine st_no (b := false) hf rfl rfl rfl hb5 rfl (by decide) fun a hf => ?_
      refine s_ hf (r_pick (b := false) hf rfl hb5 rfl) fun a hf => ?_
      refine s_ hf (r_move hf rfl) fun a hf => ?_
      refine st_no (b := false) hf rfl rfl rfl rfl rfl (by decide) fun a hf => ?_
      refine st_no (b := false) hf rfl rfl rfl rfl rfl (by decide) fun a hf => ?_
      refine st_no (b := false) hf rfl rfl rfl rfl rfl (by decide) fun a hf => ?_
      refine st_no (b := false) hf rfl rfl rfl rfl rfl (by decide) fun a hf => ?_
      refine st_no (b := false) hf rfl rfl rfl rfl rfl (by decide) fun a hf => ?_
      refine s_ hf (r_pick (b := false) hf rfl rfl rfl) fun a hf => ?_
      refine s_ hf (r_assign hf rfl) fun a hf => ?_
      refine c_nil ⟨rfl, ?_⟩
      obtain rfl := Option.some.inj hF
      exact ⟨_, hw, hf.sub ⟨rfl, trivial⟩⟩
    refine st_g (b := true) hf rfl rfl rfl hb5 rfl (by decide) (r_move hf rfl) fun a hf => ?_
    refine st_gex (b := true) hf rfl rfl rfl hb5 rfl (by decide) (r_lit (d := fI64) (xs := ([(a1.length : Int)] : List Int)) (vs := [vI (a1.length : Int)]) 2 Try.underlying36 el2 (Nat.le_of_ble_eq_true rfl) (Nat.le_of_ble_eq_true rfl) hw hf rfl rfl rfl) fun a v2 w hf hΦ => ?_
    obtain ⟨ρ, hw, hE, o2⟩ := hΦ
    obtain ⟨x6, hx7, hF⟩ := of_bind hF
    refine st_gfn (b := true) 3 hw hf rfl rfl rfl hb5 rfl (by decide) (r_fn en63 hf rfl) (impl_isSize_ok o2.ro hx7) fun a v w ρ hf hw hE hN hΦ => ?_
    obtain rfl := hΦ
    replace o2 := o2.ext hE
    refine s_ hf (r_pick (b := true) hf rfl hb5 rfl) fun a hf => ?_
    refine s_ hf (r_move hf rfl) fun a hf => ?_
    rcases of_ite hF with ⟨hb8, hF⟩ | ⟨hb8, hF⟩
    rotate_left
    · refine st_no (b := false) hf rfl rfl rfl hb8 rfl (by decide) fun a hf => ?_
      refine st_no (b := false) hf rfl rfl rfl hb8 rfl (by decide) fun a hf => ?_
      refine st_no (b := false) hf rfl rfl rfl hb8 rfl (by decide) fun a hf => ?_
      refine st_no (b := false) hf rfl rfl rfl hb8 rfl (by decide) fun a hf => ?_
      refine st_no (b := false) hf rfl rfl rfl hb8 rfl (by decide) fun a hf => ?_
      refine s_ hf (r_pick (b := false) hf rfl hb8 rfl) fun a hf => ?_
      refine s_ hf (r_assign hf rfl) fun a hf => ?_
      refine c_nil ⟨rfl, ?_⟩
      obtain rfl := Option.some.inj hF
      exact ⟨_, hw, hf.sub ⟨rfl, trivial⟩⟩
    refine st_g (b := true) hf rfl rfl rfl hb8 rfl (by decide) (r_move hf rfl) fun a hf => ?_
    refine st_g (b := true) hf rfl rfl rfl hb8 rfl (by decide) (r_move hf rfl) fun a hf => ?_
    refine st_g (b := true) hf rfl rfl rfl hb8 rfl (by decide) (r_move hf rfl) fun a hf => ?_
    refine st_g (b := true) hf rfl rfl rfl hb8 rfl (by decide) (r_move hf rfl) fun a hf => ?_
    obtain ⟨x9, hx10, hF⟩ := of_bind hF
    refine st_gfn (b := true) 4 hw hf rfl rfl rfl hb8 rfl (by decide) (r_fn en67 hf rfl) (impl_isMatrix_ok (h1.now hw) hx10) fun a v w ρ hf hw hE hN hΦ => ?_
    obtain rfl := hΦ
    replace o2 := o2.ext hE
    refine s_ hf (r_pick (b := true) hf rfl hb8 rfl) fun a hf => ?_
    refine s_ hf (r_assign hf rfl) fun a hf => ?_
    refine c_nil ⟨rfl, ?_⟩
    obtain rfl := Option.some.inj hF
    exact ⟨_, hw, hf.sub ⟨rfl, trivial⟩⟩
  rintro a w ⟨ρ, hw, hf⟩
  have hF := hG1
  refine n_then <| c_retc ?_
  obtain rfl := Option.some.inj hF
  refine c_ret hf (res_tmp Try.results53 hf rfl) ?_
  exact ⟨_, rfl, hw.below, rfl⟩
/-! f112 -/
noncomputable def spec_l01Matrix_l8 (a0 : Int) (a1 : List (List Int)) (s3 : Int) (s9 : Int) : Option (LR Int Bool) :=
  if (decide (s9 < ((gl [] a1 s3).length : Int))) = true then (if 0 ≤ s9 ∧ s9 < ((gl [] a1 s3).length : Int) then ((spec_l01In (gl 0 (gl [] a1 s3) s9) 0 (w64 (a0 - 1))).bind fun x15 => if (!x15) = true then (some (.ret false)) else (some (.next (w64 (s9 + 1))))) else none) else (some (.stop s9))
noncomputable def spec_l01Matrix_l2 (a0 : Int) (a1 : List (List Int)) (a3 : Int) (s3 : Int) : Option (LR Int Bool) :=
  if (decide (s3 < (a1.length : Int))) = true then (if 0 ≤ s3 ∧ s3 < (a1.length : Int) then (if (decide (((gl [] a1 s3).length : Int) ≠ a3)) = true then (some (.ret false)) else ((iter (fun s => spec_l01Matrix_l8 a0 a1 s3 s) 0).bind fun o => match o with | .stop s9 => (some (.next (w64 (s3 + 1)))) | .ret r => some (.ret r) | .next _ => none)) else none) else (some (.stop s3))
noncomputable def spec_l01Matrix (a0 : Int) (a1 : List (List Int)) (a2 : Int) (a3 : Int) : Option Bool :=
  if (decide ((a1.length : Int) ≠ a2)) = true then (some (false)) else ((iter (fun s => spec_l01Matrix_l2 a0 a1 a3 s) 0).bind fun o => match o with | .stop s3 => (some (true)) | .ret r => some r | .next _ => none)
theorem spec_l01Matrix_ok {w0 : World} {a0 : Int} {a1 : List (List Int)} {a2 : Int} {a3 : Int} {va1 : Value} (h1 : Ro (Kd.slice 2 (kf fI64)) w0 va1 a1) {r : Bool} (hF : spec_l01Matrix a0 a1 a2 a3 = some r) :
    Calls Try.prog 112 [vI a0, va1, vI a2, vI a3].toArray w0 fun e w => ∃ v, e = .returned v ∧ Below w0.heap.size w0 w ∧ .bool r = v := by
  refine calls_of (k := 48) Try.func112 rfl rfl (Nat.le_of_ble_eq_true rfl) fun a hf => ?_
  replace hf : Fr 48 a [(0, vI a0), (1, va1), (2, vI a2), (3, vI a3)] := hf
  refine c_start fun w ρ hw => ?_
  unfold spec_l01Matrix at hF
  refine c_seq <| c_region ?_
  refine s_ hf (r_assign hf rfl) fun a hf => ?_
  refine c_nt <| c_seq <| c_seq <| c_region ?_
  refine s_ hf (r_move hf rfl) fun a hf => ?_
  refine s_ hf (r_len Try.underlying24 (h1.now hw) hf rfl) fun a hf => ?_
  refine s_ hf (r_move hf rfl) fun a hf => ?_
  refine s_ hf (r_neq hf rfl rfl) fun a hf => ?_
  refine c_nt ?_
  rcases of_ite hF with ⟨hb1, hF⟩ | ⟨hb1, hF⟩
  · refine c_ift hf rfl hb1 <| c_seq <| c_region ?_
    refine s_ hf (r_assign hf rfl) fun a hf => ?_
    refine c_nt <| c_retc ?_
    obtain rfl := Option.some.inj hF
    refine r_then <| c_ret hf (res_tmp Try.results112 hf rfl) ?_
    exact ⟨_, rfl, hw.below, rfl⟩
  refine c_iff hf rfl hb1 <| c_skip <| n_then <| c_seq <| c_seq <| c_region ?_
  refine s_ hf (r_assign hf rfl) fun a hf => ?_
  refine c_nt ?_
  obtain ⟨ol2, ho2, hG2⟩ := of_bind hF
  clear hF
  refine c_block (c_loop (id := 0) (fun s => spec_l01Matrix_l2 a0 a1 a3 s) (fun (s3 : Int) a w => ∃ ρ, Wd w0 ρ w ∧ Fr 48 a [(0, vI a0), (1, va1), (3, vI a3), (9, vI s3)]) (fun (s3 : Int) a w => ∃ ρ, Wd w0 ρ w ∧ Fr 48 a []) ho2 ⟨_, hw, hf.sub ⟨rfl, rfl, rfl, rfl, trivial⟩⟩ ?_ ?_)
  · rintro s3 lr a w ⟨ρ, hw, hf⟩ hF
    replace hF : spec_l01Matrix_l2 a0 a1 a3 s3 = some lr := hF
    unfold spec_l01Matrix_l2 at hF
    refine c_seq <| c_seq <| c_region ?_
    refine s_ hf (r_move hf rfl) fun a hf => ?_
    refine s_ hf (r_move hf rfl) fun a hf => ?_
    refine s_ hf (r_len Try.underlying24 (h1.now hw) hf rfl) fun a hf => ?_
    refine s_ hf (r_lss hf rfl rfl) fun a hf => ?_
    refine c_nt ?_
    rcases of_ite hF with ⟨hb4, hF⟩ | ⟨hb4, hF⟩
    rotate_left
    · refine c_iff hf rfl hb4 <| c_exit <| x_then ?_
      obtain rfl := Option.some.inj hF
      exact Rnd.stops ⟨_, hw, hf.sub trivial⟩
    refine c_ift hf rfl hb4 <| c_skip <| n_then <| c_seq <| c_block <| c_seq <| c_seq <| c_region ?_
    refine s_ hf (r_move hf rfl) fun a hf => ?_
    refine s_ hf (r_move hf rfl) fun a hf => ?_
    obtain ⟨hc5, hF⟩ := of_guard hF
    obtain ⟨ad6, c6, u6, he6, hl6, ho6⟩ := Ro.el_row h1 hc5.1 hc5.2
    refine s_ hf (r_idx Try.underlying24 sz36 hf rfl ⟨_, he6⟩ rfl hc5.1 hc5.2) fun a hf => ?_
    refine s_ hf (r_load_cell ty36 hf rfl (hl6.below hw.below)) fun a hf => ?_
    refine s_ hf (r_len Try.underlying36 (ho6.now hw) hf rfl) fun a hf => ?_
    refine s_ hf (r_move hf rfl) fun a hf => ?_
    refine s_ hf (r_neq hf rfl rfl) fun a hf => ?_
    refine c_nt ?_
    rcases of_ite hF with ⟨hb7, hF⟩ | ⟨hb7, hF⟩
    · refine c_ift hf rfl hb7 <| c_seq <| c_region ?_
      refine s_ hf (r_assign hf rfl) fun a hf => ?_
      refine c_nt <| c_retc ?_
      obtain rfl := Option.some.inj hF
      refine r_then <| r_block <| r_then ?_
      refine Rnd.rets fun ho => ?_
      subst ho
      have hF := hG2
      dsimp only at hF
      obtain rfl := Option.some.inj hF
      refine r_block <| r_then <| c_ret hf (res_tmp Try.results112 hf rfl) ?_
      exact ⟨_, rfl, hw.below, rfl⟩
    refine c_iff hf rfl hb7 <| c_skip <| n_then <| c_seq <| c_region ?_
    refine s_ hf (r_assign hf rfl) fun a hf => ?_
    refine c_nt ?_
    obtain ⟨ol8, ho8, hG8⟩ := of_bind hF
    clear hF
    refine c_block (c_loop (id := 2) (fun s => spec_l01Matrix_l8 a0 a1 s3 s) (fun (s9 : Int) a w => ∃ ρ, Wd w0 ρ w ∧ Fr 48 a [(0, vI a0), (1, va1), (3, vI a3), (9, vI s3), (10, vI s9)]) (fun (s9 : Int) a w => ∃ ρ, Wd w0 ρ w ∧ Fr 48 a [(0, vI a0), (1, va1), (3, vI a3), (9, vI s3)]) ho8 ⟨_, hw, hf.sub ⟨rfl, rfl, rfl, rfl, rfl, trivial⟩⟩ ?_ ?_)
    · rintro s9 lr a w ⟨ρ, hw, hf⟩ hF
      replace hF : spec_l01Matrix_l8 a0 a1 s3 s9 = some lr := hF
      unfold spec_l01Matrix_l8 at hF
      refine c_seq <| c_seq <| c_region ?_
      refine s_ hf (r_move hf rfl) fun a hf => ?_
      refine s_ hf (r_move hf rfl) fun a hf => ?_
      refine s_ hf (r_move hf rfl) fun a hf => ?_
      obtain ⟨ad10, c10, u10, he10, hl10, ho10⟩ := Ro.el_row h1 hc5.1 hc5.2
      refine s_ hf (r_idx Try.underlying24 sz36 hf rfl ⟨_, he10⟩ rfl hc5.1 hc5.2) fun a hf => ?_
      refine s_ hf (r_load_cell ty36 hf rfl (hl10.below hw.below)) fun a hf => ?_
      refine s_ hf (r_len Try.underlying36 (ho10.now hw) hf rfl) fun a hf => ?_
      refine s_ hf (r_lss hf rfl rfl) fun a hf => ?_
      refine c_nt ?_
      rcases of_ite hF with ⟨hb11, hF⟩ | ⟨hb11, hF⟩
      rotate_left
      · refine c_iff hf rfl hb11 <| c_exit <| x_then ?_
        obtain rfl := Option.some.inj hF
        exact Rnd.stops ⟨_, hw, hf.sub ⟨rfl, rfl, rfl, rfl, trivial⟩⟩
      refine c_ift hf rfl hb11 <| c_skip <| n_then <| c_seq <| c_block <| c_seq <| c_region ?_
      refine s_ hf (r_move hf rfl) fun a hf => ?_
      refine s_ hf (r_move hf rfl) fun a hf => ?_
      obtain ⟨ad12, c12, u12, he12, hl12, ho12⟩ := Ro.el_row h1 hc5.1 hc5.2
      refine s_ hf (r_idx Try.underlying24 sz36 hf rfl ⟨_, he12⟩ rfl hc5.1 hc5.2) fun a hf => ?_
      refine s_ hf (r_load_cell ty36 hf rfl (hl12.below hw.below)) fun a hf => ?_
      refine s_ hf (r_move hf rfl) fun a hf => ?_
      obtain ⟨hc13, hF⟩ := of_guard hF
      obtain ⟨ad14, c14, he14, hl14⟩ := Ro.el fI64 ho12 0 hc13.1 hc13.2
      refine s_ hf (r_idx Try.underlying36 sz2 hf rfl ⟨_, he14⟩ rfl hc13.1 hc13.2) fun a hf => ?_
      refine s_ hf (r_load_cell ty2 hf rfl (hl14.below hw.below)) fun a hf => ?_
      refine s_ hf (r_move hf rfl) fun a hf => ?_
      refine s_ hf (r_sub hf rfl rfl) fun a hf => ?_
      obtain ⟨x15, hx16, hF⟩ := of_bind hF
      refine st_fn 1 hw hf rfl rfl (by decide) (r_fn en66 hf rfl) (spec_l01In_ok  hx16) fun a v w ρ hf hw hE hN hΦ => ?_
      obtain rfl := hΦ
      refine s_ hf (r_not hf rfl) fun a hf => ?_
      refine c_nt ?_
      rcases of_ite hF with ⟨hb17, hF⟩ | ⟨hb17, hF⟩
      rotate_left
      · refine c_iff hf rfl hb17 <| c_skip <| n_block <| n_then <| c_region ?_
        refine s_ hf (r_move hf rfl) fun a hf => ?_
        refine s_ hf (r_add hf rfl rfl) fun a hf => ?_
        refine s_ hf (r_assign hf rfl) fun a hf => ?_
        refine c_nil ?_
        obtain rfl := Option.some.inj hF
        exact Rnd.goes ⟨_, hw, hf.sub ⟨rfl, rfl, rfl, rfl, rfl, trivial⟩⟩
      refine c_ift hf rfl hb17 <| c_seq <| c_region ?_
      refine s_ hf (r_assign hf rfl) fun a hf => ?_
      refine c_nt <| c_retc ?_
      obtain rfl := Option.some.inj hF
      refine r_block <| r_then ?_
      refine Rnd.rets fun ho => ?_
      subst ho
      have hF := hG8
      dsimp only at hF
      obtain rfl := Option.some.inj hF
      refine r_block <| r_block <| r_then ?_
      refine Rnd.rets fun ho => ?_
      subst ho
      have hF := hG2
      dsimp only at hF
      obtain rfl := Option.some.inj hF
      refine r_block <| r_then <| c_ret hf (res_tmp Try.results112 hf rfl) ?_
      exact ⟨_, rfl, hw.below, rfl⟩
    rintro s9 a w hs ⟨ρ, hw, hf⟩
    subst hs
    have hF := hG8
    dsimp only at hF
    refine x_block <| n_block <| n_then <| c_region ?_
    refine s_ hf (r_move hf rfl) fun a hf => ?_
    refine s_ hf (r_add hf rfl rfl) fun a hf => ?_
    refine s_ hf (r_assign hf rfl) fun a hf => ?_
    refine c_nil ?_
    obtain rfl := Option.some.inj hF
    exact Rnd.goes ⟨_, hw, hf.sub ⟨rfl, rfl, rfl, rfl, trivial⟩⟩
  rintro s3 a w hs ⟨ρ, hw, hf⟩
  subst hs
  have hF := hG2
  dsimp only at hF
  refine x_block <| n_then <| c_seq <| c_region ?_
  refine s_ hf (r_assign hf rfl) fun a hf => ?_
  refine c_nt <| c_retc ?_
  obtain rfl := Option.some.inj hF
  refine c_ret hf (res_tmp Try.results112 hf rfl) ?_
  exact ⟨_, rfl, hw.below, rfl⟩
/-! f56 -/
noncomputable def spec_l04Square (a0 : Int) (a1 : List (List Int)) : Option Bool :=
  ((spec_l01Prime a0).bind fun x3 => if x3 = true then ((spec_l01In (a1.length : Int) 1 3).bind fun x6 => if x6 = true then ((spec_l01Matrix a0 a1 (a1.length : Int) (a1.length : Int)).bind fun x9 => some x9) else (some false)) else (some false)).bind fun (s2 : Bool) => some (s2)
theorem spec_l04Square_ok {w0 : World} {a0 : Int} {a1 : List (List Int)} {va1 : Value} (h1 : Ro (Kd.slice 2 (kf fI64)) w0 va1 a1) {r : Bool} (hF : spec_l04Square a0 a1 = some r) :
    Calls Try.prog 56 [vI a0, va1].toArray w0 fun e w => ∃ v, e = .returned v ∧ Below w0.heap.size w0 w ∧ .bool r = v := by
  refine calls_of (k := 21) Try.func56 rfl rfl (Nat.le_of_ble_eq_true rfl) fun a hf => ?_
  replace hf : Fr 21 a [(0, vI a0), (1, va1)] := hf
  refine c_start fun w ρ hw => ?_
  unfold spec_l04Square at hF
  refine c_seq <| c_region ?_
  refine s_ hf (r_assign hf rfl) fun a hf => ?_
  refine c_nt <| c_seq <| c_region ?_
  refine s_ hf (r_move hf rfl) fun a hf => ?_
  refine s_ hf (r_len Try.underlying24 (h1.now hw) hf rfl) fun a hf => ?_
  refine s_ hf (r_assign hf rfl) fun a hf => ?_
  refine c_nt <| c_seq ?_
  obtain ⟨s2, hT1, hG1⟩ := of_bind hF
  clear hF
  refine c_meet (fun (s2 : Bool) a w => ∃ ρ, Wd w0 ρ w ∧ Fr 21 a [(4, .bool s2)]) s2 ?_ ?_
  · have hF := hT1
    refine c_region ?_
    refine s_ hf (r_move hf rfl) fun a hf => ?_
    obtain ⟨x3, hx4, hF⟩ := of_bind hF
    refine st_fn 1 hw hf rfl rfl (by decide) (r_fn en65 hf rfl) (spec_l01Prime_ok  hx4) fun a v w ρ hf hw hE hN hΦ => ?_
    obtain rfl := hΦ
    refine s_ hf (r_move hf rfl) fun a hf => ?_
    rcases of_ite hF with ⟨hb5, hF⟩ | ⟨hb5, hF⟩
    rotate_left
    · refine st_no (b := false) hf rfl rfl rfl hb5 rfl (by decide) fun a hf => ?_
      refine st_no (b := false) hf rfl rfl rfl hb5 rfl (by decide) fun a hf => ?_
      refine s_ hf (r_pick (b := false) hf rfl hb5 rfl) fun a hf => ?_
      refine s_ hf (r_move hf rfl) fun a hf => ?_
      refine st_no (b := false) hf rfl rfl rfl rfl rfl (by decide) fun a hf => ?_
      refine st_no (b := false) hf rfl rfl rfl rfl rfl (by decide) fun a hf => ?_
      refine st_no (b := false) hf rfl rfl rfl rfl rfl (by decide) fun a hf => ?_
      refine st_no (b := false) hf rfl rfl rfl rfl rfl (by decide) fun a hf => ?_
      refine st_no (b := false) hf rfl rfl rfl rfl rfl (by decide) fun a hf => ?_
      refine s_ hf (r_pick (b := false) hf rfl rfl rfl) fun a hf => ?_
      refine s_ hf (r_assign hf rfl) fun a hf => ?_
      refine c_nil ⟨rfl, ?_⟩
      obtain rfl := Option.some.inj hF
      exact ⟨_, hw, hf.sub ⟨rfl, trivial⟩⟩
    refine st_g (b := true) hf rfl rfl rfl hb5 rfl (by decide) (r_move hf rfl) fun a hf => ?_
    obtain ⟨x6, hx7, hF⟩ := of_bind hF
    refine st_gfn (b := true) 2 hw hf rfl rfl rfl hb5 rfl (by decide) (r_fn en66 hf rfl) (spec_l01In_ok  hx7) fun a v w ρ hf hw hE hN hΦ => ?_
    obtain rfl := hΦ
    refine s_ hf (r_pick (b := true) hf rfl hb5 rfl) fun a hf => ?_
    refine s_ hf (r_move hf rfl) fun a hf => ?_
    rcases of_ite hF with ⟨hb8, hF⟩ | ⟨hb8, hF⟩
    rotate_left
    · refine st_no (b := false) hf rfl rfl rfl hb8 rfl (by decide) fun a hf => ?_
      refine st_no (b := false) hf rfl rfl rfl hb8 rfl (by decide) fun a hf => ?_
      refine st_no (b := false) hf rfl rfl rfl hb8 rfl (by decide) fun a hf => ?_
      refine st_no (b := false) hf rfl rfl rfl hb8 rfl (by decide) fun a hf => ?_
      refine st_no (b := false) hf rfl rfl rfl hb8 rfl (by decide) fun a hf => ?_
      refine s_ hf (r_pick (b := false) hf rfl hb8 rfl) fun a hf => ?_
      refine s_ hf (r_assign hf rfl) fun a hf => ?_
      refine c_nil ⟨rfl, ?_⟩
      obtain rfl := Option.some.inj hF
      exact ⟨_, hw, hf.sub ⟨rfl, trivial⟩⟩
    refine st_g (b := true) hf rfl rfl rfl hb8 rfl (by decide) (r_move hf rfl) fun a hf => ?_
    refine st_g (b := true) hf rfl rfl rfl hb8 rfl (by decide) (r_move hf rfl) fun a hf => ?_
    refine st_g (b := true) hf rfl rfl rfl hb8 rfl (by decide) (r_move hf rfl) fun a hf => ?_
    refine st_g (b := true) hf rfl rfl rfl hb8 rfl (by decide) (r_move hf rfl) fun a hf => ?_
    obtain ⟨x9, hx10, hF⟩ := of_bind hF
    refine st_gfn (b := true) 3 hw hf rfl rfl rfl hb8 rfl (by decide) (r_fn en112 hf rfl) (spec_l01Matrix_ok (h1.now hw) hx10) fun a v w ρ hf hw hE hN hΦ => ?_
    obtain rfl := hΦ
    refine s_ hf (r_pick (b := true) hf rfl hb8 rfl) fun a hf => ?_
    refine s_ hf (r_assign hf rfl) fun a hf => ?_
    refine c_nil ⟨rfl, ?_⟩
    obtain rfl := Option.some.inj hF
    exact ⟨_, hw, hf.sub ⟨rfl, trivial⟩⟩
  rintro a w ⟨ρ, hw, hf⟩
  have hF := hG1
  refine n_then <| c_retc ?_
  obtain rfl := Option.some.inj hF
  refine c_ret hf (res_tmp Try.results56 hf rfl) ?_
  exact ⟨_, rfl, hw.below, rfl⟩
/-! f59 -/
noncomputable def spec_l01From_l1 (a0 : List UInt8) (s2 : Int) (s3 : Int) : Option (LR (Int × Int) (Int × Int)) :=
  (if (decide (s2 < (a0.length : Int))) = true then (some (decide (s2 < 4096))) else (some false)).bind fun (s5 : Bool) => if s5 = true then (if 0 ≤ s2 ∧ s2 < (a0.length : Int) then (some (.next (w64 (s2 + 1), wu ((wu ((wu (s3 * (1099511628211 : Int))) + (wu ((gl 0 a0 s2).toNat : Int)))) + (79 : Int))))) else none) else (some (.stop (s2, s3)))
noncomputable def spec_l01From (a0 : List UInt8) : Option (Int × Int) :=
  (iter (fun s => spec_l01From_l1 a0 s.1 s.2) (0, wu ((12619 : Int) + (wu (a0.length : Int))))).bind fun o => match o with | .stop (s2, s3) => (some ((0, s3))) | .ret r => some r | .next _ => none
theorem spec_l01From_ok {w0 : World} {a0 : List UInt8} {va0 : Value} (h0 : Ro (kf fU8) w0 va0 a0) {r : (Int × Int)} (hF : spec_l01From a0 = some r) :
    Calls Try.prog 59 [va0].toArray w0 fun e w => ∃ v, e = .returned v ∧ Below w0.heap.size w0 w ∧ ∃ u0, .pointer (some ((⟨u0, 0, none⟩ : Addr).add 0)) = v ∧ w0.heap.size ≤ u0 ∧ Vc w u0 112 [va0, vI r.1, vU r.2] := by
  refine calls_of (k := 38) Try.func59 rfl rfl (Nat.le_of_ble_eq_true rfl) fun a hf => ?_
  replace hf : Fr 38 a [(0, va0)] := hf
  refine c_start fun w ρ hw => ?_
  unfold spec_l01From at hF
  refine c_seq <| c_region ?_
  refine s_ hf (r_assign hf rfl) fun a hf => ?_
  refine c_nt <| c_seq <| c_region ?_
  refine s_ hf (r_move hf rfl) fun a hf => ?_
  refine s_ hf (r_move hf rfl) fun a hf => ?_
  refine s_ hf (r_len Try.underlying22 (h0.now hw) hf rfl) fun a hf => ?_
  refine s_ hf (r_conv_i64_u64 Try.underlying3 Try.underlying110 hf rfl) fun a hf => ?_
  refine s_ hf (r_add_u hf rfl rfl) fun a hf => ?_
  refine s_ hf (r_build_struct (pl := [(0, 1), (1, 1), (2, 1)]) (vs := [(0, va0), (2, vU (wu ((12619 : Int) + (wu (a0.length : Int)))))]) (res := ([va0, vI 0, vU (wu ((12619 : Int) + (wu (a0.length : Int))))]).toArray) Try.underlying112 (by kernel_rfl) ze112 hf rfl rfl ((fill_step (off := 0) (sz := 1) (cs := [.slice none 0 0, .int .i64 0, .int .u64 0]) rfl (h0.now hw).cells1 rfl (Nat.le_of_ble_eq_true rfl)).trans ((fill_step (off := 2) (sz := 1) (cs := [va0, .int .i64 0, .int .u64 0]) rfl rfl rfl (Nat.le_of_ble_eq_true rfl)).trans rfl))) fun a hf => ?_
  refine sx_ hf (r_box (cs := [va0, vI 0, vU (wu ((12619 : Int) + (wu (a0.length : Int))))]) 1 hw hf rfl rfl) fun a v w hf hΦ => ?_
  obtain ⟨g1, ρ, rfl, hw, hE, o1⟩ := hΦ
  refine s_ hf (r_assign hf rfl) fun a hf => ?_
  refine c_nt <| c_seq <| c_seq <| c_region ?_
  refine s_ hf (r_assign hf rfl) fun a hf => ?_
  refine c_nt ?_
  obtain ⟨ol1, ho1, hG1⟩ := of_bind hF
  clear hF
  refine c_block (c_loop (id := 0) (fun s => spec_l01From_l1 a0 s.1 s.2) (fun (s : Int × Int) a w => match s with | (s2, s3) => ∃ ρ, Wd w0 ρ w ∧ Fr 38 a [(0, va0), (3, .pointer (some ((⟨g1, 0, none⟩ : Addr).add 0))), (4, vI s2)] ∧ Va ρ w 1 g1 112 ([va0, vI 0, vU s3])) (fun (s : Int × Int) a w => match s with | (s2, s3) => ∃ ρ, Wd w0 ρ w ∧ Fr 38 a [(3, .pointer (some ((⟨g1, 0, none⟩ : Addr).add 0)))] ∧ Va ρ w 1 g1 112 ([va0, vI 0, vU s3])) ho1 ⟨_, hw, hf.sub ⟨rfl, rfl, rfl, trivial⟩, o1⟩ ?_ ?_)
  · rintro ⟨s2, s3⟩ lr a w ⟨ρ, hw, hf, o1⟩ hF
    replace hF : spec_l01From_l1 a0 s2 s3 = some lr := hF
    unfold spec_l01From_l1 at hF
    refine c_seq <| c_seq ?_
    obtain ⟨s5, hT4, hG4⟩ := of_bind hF
    clear hF
    refine c_meet (fun (s5 : Bool) a w => ∃ ρ, Wd w0 ρ w ∧ Fr 38 a [(0, va0), (3, .pointer (some ((⟨g1, 0, none⟩ : Addr).add 0))), (4, vI s2), (19, .bool s5)] ∧ Va ρ w 1 g1 112 ([va0, vI 0, vU s3])) s5 ?_ ?_
    · have hF := hT4
      refine c_region ?_
      refine s_ hf (r_move hf rfl) fun a hf => ?_
      refine s_ hf (r_move hf rfl) fun a hf => ?_
      refine s_ hf (r_len Try.underlying22 (h0.now hw) hf rfl) fun a hf => ?_
      refine s_ hf (r_lss hf rfl rfl) fun a hf => ?_
      refine s_ hf (r_move hf rfl) fun a hf => ?_
      rcases of_ite hF with ⟨hb6, hF⟩ | ⟨hb6, hF⟩
      rotate_left
      · refine st_no (b := false) hf rfl rfl rfl hb6 rfl (by decide) fun a hf => ?_
        refine st_no (b := false) hf rfl rfl rfl hb6 rfl (by decide) fun a hf => ?_
        refine s_ hf (r_pick (b := false) hf rfl hb6 rfl) fun a hf => ?_
        refine c_nil ⟨rfl, ?_⟩
        obtain rfl := Option.some.inj hF
        exact ⟨_, hw, hf.sub ⟨rfl, rfl, rfl, rfl, trivial⟩, o1⟩
      refine st_g (b := true) hf rfl rfl rfl hb6 rfl (by decide) (r_move hf rfl) fun a hf => ?_
      refine st_g (b := true) hf rfl rfl rfl hb6 rfl (by decide) (r_lss hf rfl rfl) fun a hf => ?_
      refine s_ hf (r_pick (b := true) hf rfl hb6 rfl) fun a hf => ?_
      refine c_nil ⟨rfl, ?_⟩
      obtain rfl := Option.some.inj hF
      exact ⟨_, hw, hf.sub ⟨rfl, rfl, rfl, rfl, trivial⟩, o1⟩
    rintro a w ⟨ρ, hw, hf, o1⟩
    have hF := hG4
    refine n_then ?_
    rcases of_ite hF with ⟨hb7, hF⟩ | ⟨hb7, hF⟩
    rotate_left
    · refine c_iff hf rfl hb7 <| c_exit <| x_then ?_
      obtain rfl := Option.some.inj hF
      exact Rnd.stops ⟨_, hw, hf.sub ⟨rfl, trivial⟩, o1⟩
    refine c_ift hf rfl hb7 <| c_skip <| n_then <| c_seq <| c_block ?_
    obtain ⟨hc8, hF⟩ := of_guard hF
    obtain ⟨ad9, c9, he9, hl9⟩ := Ro.el fU8 h0 0 hc8.1 hc8.2
    replace hf : Fr 38 a [(0, va0), (3, .pointer (some ((⟨g1, 0, none⟩ : Addr).add 0))), (4, vI s2)] := hf.sub ⟨rfl, rfl, rfl, trivial⟩
    refine c_drawL (h := 13) mixed (by kernel_rfl) (by kernel_rfl) (fun ρ w => Va ρ w 1 g1 112 ([va0, vI 0, vU s3])) ?_ [fun ρ w v => .pointer (some ((⟨g1, 0, none⟩ : Addr).add 0)) = v, fun ρ w v => .pointer (some ((⟨g1, 0, none⟩ : Addr).add 0)) = v, fun ρ w v => .pointer (some ((⟨g1, 0, none⟩ : Addr).add 0)) = v, fun ρ w v => .pointer (some ((⟨g1, 0, none⟩ : Addr).add (0 + 2))) = v, fun ρ w v => vU s3 = v, fun ρ w v => vU (wu (s3 * (1099511628211 : Int))) = v, fun ρ w v => va0 = v, fun ρ w v => vI s2 = v, fun ρ w v => .pointer (some (ad9.add (s2.toNat * 1))) = v, fun ρ w v => vB (gl 0 a0 s2) = v, fun ρ w v => vU (wu ((gl 0 a0 s2).toNat : Int)) = v, fun ρ w v => vU (wu ((wu (s3 * (1099511628211 : Int))) + (wu ((gl 0 a0 s2).toNat : Int)))) = v, fun ρ w v => vU (wu ((wu ((wu (s3 * (1099511628211 : Int))) + (wu ((gl 0 a0 s2).toNat : Int)))) + (79 : Int))) = v] ?_ hw o1 hf ?_ ?_
    · intro ρ w ρ' w' hE hG
      have o1 : Va ρ w 1 g1 112 ([va0, vI 0, vU s3]) := hG
      exact o1.ext hE
    · exact LastsL.cons (fun _ _ _ _ _ _ h => h) <| LastsL.cons (fun _ _ _ _ _ _ h => h) <| LastsL.cons (fun _ _ _ _ _ _ h => h) <| LastsL.cons (fun _ _ _ _ _ _ h => h) <| LastsL.cons (fun _ _ _ _ _ _ h => h) <| LastsL.cons (fun _ _ _ _ _ _ h => h) <| LastsL.cons (fun _ _ _ _ _ _ h => h) <| LastsL.cons (fun _ _ _ _ _ _ h => h) <| LastsL.cons (fun _ _ _ _ _ _ h => h) <| LastsL.cons (fun _ _ _ _ _ _ h => h) <| LastsL.cons (fun _ _ _ _ _ _ h => h) <| LastsL.cons (fun _ _ _ _ _ _ h => h) <| LastsL.cons (fun _ _ _ _ _ _ h => h) <| LastsL.nil
    · refine StepsB.cons ?_ <| StepsB.cons ?_ <| StepsB.cons ?_ <| StepsB.cons ?_ <| StepsB.cons ?_ <| StepsB.cons ?_ <| StepsB.cons ?_ <| StepsB.cons ?_ <| StepsB.cons ?_ <| StepsB.cons ?_ <| StepsB.cons ?_ <| StepsB.cons ?_ <| StepsB.cons ?_ <| StepsB.nil
      · intro ρ w a hw hG hf hd K hK
        have o1 : Va ρ w 1 g1 112 ([va0, vI 0, vU s3]) := hG
        exact dv_ hK hw (wn rfl) (r_move hf rfl) rfl
      · intro ρ w a hw hG hf hd K hK
        have o1 : Va ρ w 1 g1 112 ([va0, vI 0, vU s3]) := hG
        exact dv_ hK hw (wn rfl) (r_move hf rfl) rfl
      · intro ρ w a hw hG hf hd K hK
        have o1 : Va ρ w 1 g1 112 ([va0, vI 0, vU s3]) := hG
        obtain ⟨_, hf, rfl⟩ := got (hd 1 (by kernel_rfl)) hf
        exact dv_ hK hw (wn rfl) (r_nilck hf rfl) rfl
      · intro ρ w a hw hG hf hd K hK
        have o1 : Va ρ w 1 g1 112 ([va0, vI 0, vU s3]) := hG
        obtain ⟨_, hf, rfl⟩ := got (hd 2 (by kernel_rfl)) hf
        exact dv_ hK hw (wn rfl) (r_fa fa112_2 hf rfl) rfl
      · intro ρ w a hw hG hf hd K hK
        have o1 : Va ρ w 1 g1 112 ([va0, vI 0, vU s3]) := hG
        obtain ⟨_, hf, rfl⟩ := got (hd 3 (by kernel_rfl)) hf
        exact dv_ hK hw (wn rfl) (r_load_cell ty110 hf rfl (o1.cl.at_ 2 _ rfl)) rfl
      · intro ρ w a hw hG hf hd K hK
        have o1 : Va ρ w 1 g1 112 ([va0, vI 0, vU s3]) := hG
        obtain ⟨_, hf, rfl⟩ := got (hd 4 (by kernel_rfl)) hf
        exact dv_ hK hw (wn rfl) (r_mul_u hf rfl rfl) rfl
      · intro ρ w a hw hG hf hd K hK
        have o1 : Va ρ w 1 g1 112 ([va0, vI 0, vU s3]) := hG
        exact dv_ hK hw (wn rfl) (r_move hf rfl) rfl
      · intro ρ w a hw hG hf hd K hK
        have o1 : Va ρ w 1 g1 112 ([va0, vI 0, vU s3]) := hG
        exact dv_ hK hw (wn rfl) (r_move hf rfl) rfl
      · intro ρ w a hw hG hf hd K hK
        have o1 : Va ρ w 1 g1 112 ([va0, vI 0, vU s3]) := hG
        obtain ⟨_, hf, rfl⟩ := got (hd 6 (by kernel_rfl)) hf
        obtain ⟨_, hf, rfl⟩ := got (hd 7 (by kernel_rfl)) hf
        exact dv_ hK hw (wn rfl) (r_idx Try.underlying22 sz5 hf rfl ⟨_, he9⟩ rfl hc8.1 hc8.2) rfl
      · intro ρ w a hw hG hf hd K hK
        have o1 : Va ρ w 1 g1 112 ([va0, vI 0, vU s3]) := hG
        obtain ⟨_, hf, rfl⟩ := got (hd 8 (by kernel_rfl)) hf
        exact dv_ hK hw (wn rfl) (r_load_cell ty5 hf rfl (hl9.below hw.below)) rfl
      · intro ρ w a hw hG hf hd K hK
        have o1 : Va ρ w 1 g1 112 ([va0, vI 0, vU s3]) := hG
        obtain ⟨_, hf, rfl⟩ := got (hd 9 (by kernel_rfl)) hf
        exact dv_ hK hw (wn rfl) (r_conv_u8_u64 Try.underlying5 Try.underlying110 hf rfl) rfl
      · intro ρ w a hw hG hf hd K hK
        have o1 : Va ρ w 1 g1 112 ([va0, vI 0, vU s3]) := hG
        obtain ⟨_, hf, rfl⟩ := got (hd 5 (by kernel_rfl)) hf
        obtain ⟨_, hf, rfl⟩ := got (hd 10 (by kernel_rfl)) hf
        exact dv_ hK hw (wn rfl) (r_add_u hf rfl rfl) rfl
      · intro ρ w a hw hG hf hd K hK
        have o1 : Va ρ w 1 g1 112 ([va0, vI 0, vU s3]) := hG
        obtain ⟨_, hf, rfl⟩ := got (hd 11 (by kernel_rfl)) hf
        exact dv_ hK hw (wn rfl) (r_add_u hf rfl rfl) rfl
    intro ρ w a hw hG hf hd
    have o1 : Va ρ w 1 g1 112 ([va0, vI 0, vU s3]) := hG
    obtain ⟨_, hf, rfl⟩ := got (hd 0 (by decide)) hf
    obtain ⟨_, hf, rfl⟩ := got (hd 12 (by decide)) hf
    refine s_ hf (r_nilck hf rfl) fun a hf => ?_
    refine s_ hf (r_fa fa112_2 hf rfl) fun a hf => ?_
    refine sk_ hf (r_store_c hw o1 (by decide) ty110 (Nat.le_of_ble_eq_true rfl) hf rfl rfl rfl rfl) fun a w hf hΦ => ?_
    obtain ⟨hw, hA, o1⟩ := hΦ
    replace o1 : Va ρ w 1 g1 112 ([va0, vI 0, vU (wu ((wu ((wu (s3 * (1099511628211 : Int))) + (wu ((gl 0 a0 s2).toNat : Int)))) + (79 : Int)))]) := o1
    refine c_nil <| n_block <| n_then <| c_region ?_
    refine s_ hf (r_move hf rfl) fun a hf => ?_
    refine s_ hf (r_add hf rfl rfl) fun a hf => ?_
    refine s_ hf (r_assign hf rfl) fun a hf => ?_
    refine c_nil ?_
    obtain rfl := Option.some.inj hF
    exact Rnd.goes ⟨_, hw, hf.sub ⟨rfl, rfl, rfl, trivial⟩, o1⟩
  rintro ⟨s2, s3⟩ a w hs ⟨ρ, hw, hf, o1⟩
  subst hs
  have hF := hG1
  dsimp only at hF
  refine x_block <| n_then <| c_seq <| c_region ?_
  refine s_ hf (r_move hf rfl) fun a hf => ?_
  refine s_ hf (r_assign hf rfl) fun a hf => ?_
  refine c_nt <| c_retc ?_
  obtain rfl := Option.some.inj hF
  refine c_ret hf (res_tmp Try.results59 hf rfl) ?_
  exact ⟨_, rfl, hw.below, ⟨_, rfl, o1.pout hw (by decide)⟩⟩
/-! f61 -/
noncomputable def spec_l01Next (a0c : List UInt8) (a0 : (Int × Int)) (a1 : Int) : Option (Int × (Int × Int)) :=
  if (decide (a1 < 1)) = true then (some ((0, a0))) else (if (decide (a0.1 < (a0c.length : Int))) = true then (if 0 ≤ a0.1 ∧ a0.1 < (a0c.length : Int) then (if a1 ≠ 0 then (some (((w64 ((w64 (andu (shru (wu ((wu (a0.2 * (6364136223846793005 : Int))) + (1442695040888963407 : Int))) (33 : Int)) (16777215 : Int))) + ((gl 0 a0c a0.1).toNat : Int))).tmod a1, (w64 (a0.1 + 1), wu ((wu (a0.2 * (6364136223846793005 : Int))) + (1442695040888963407 : Int)))))) else none) else none) else (if a1 ≠ 0 then (some (((w64 (andu (shru (wu ((wu (a0.2 * (6364136223846793005 : Int))) + (1442695040888963407 : Int))) (33 : Int)) (16777215 : Int))).tmod a1, (a0.1, wu ((wu (a0.2 * (6364136223846793005 : Int))) + (1442695040888963407 : Int)))))) else none))
theorem spec_l01Next_ok {w0 ws : World} {ρ0 : Nat → Nat} {i : Nat} (hi : i ≠ 0) (hW : Wd w0 ρ0 ws) {a0c : List UInt8} {a0 : (Int × Int)} {a1 : Int} {g0 : Nat} {va0 : Value} (h0 : Va ρ0 ws i g0 112 [va0, vI a0.1, vU a0.2]) (k0 : Ro (kf fU8) w0 va0 a0c) {r : Int × (Int × Int)} (hF : spec_l01Next a0c a0 a1 = some r) :
    Calls Try.prog 61 [.pointer (some ((⟨g0, 0, none⟩ : Addr).add 0)), vI a1].toArray ws fun e w => ∃ v, e = .returned v ∧ Nw i ρ0 w0 ws w ∧ Vc w g0 112 [va0, vI r.2.1, vU r.2.2] ∧ .int .i64 r.1 = v := by
  refine calls_of (k := 58) Try.func61 rfl rfl (Nat.le_of_ble_eq_true rfl) fun a hf => ?_
  replace hf : Fr 58 a [(0, .pointer (some ((⟨g0, 0, none⟩ : Addr).add 0))), (1, vI a1)] := hf
  refine c_starts hi hW h0 fun w ρ hw oA o1 hR => ?_
  unfold spec_l01Next at hF
  refine c_seq <| c_region ?_
  refine s_ hf (r_assign hf rfl) fun a hf => ?_
  refine c_nt <| c_seq <| c_seq <| c_region ?_
  refine s_ hf (r_move hf rfl) fun a hf => ?_
  refine s_ hf (r_lss hf rfl rfl) fun a hf => ?_
  refine c_nt ?_
  rcases of_ite hF with ⟨hb1, hF⟩ | ⟨hb1, hF⟩
  · refine c_ift hf rfl hb1 <| c_seq <| c_region ?_
    refine s_ hf (r_assign hf rfl) fun a hf => ?_
    refine c_nt <| c_retc ?_
    obtain rfl := Option.some.inj hF
    refine r_then <| c_ret hf (res_tmp Try.results61 hf rfl) ?_
    exact ⟨_, rfl, s_nw hw oA, o1.blk, rfl⟩
  refine c_iff hf rfl hb1 <| c_skip <| n_then <| c_seq <| c_region ?_
  refine s_ hf (r_move hf rfl) fun a hf => ?_
  refine s_ hf (r_move hf rfl) fun a hf => ?_
  refine s_ hf (r_nilck hf rfl) fun a hf => ?_
  refine s_ hf (r_fa fa112_2 hf rfl) fun a hf => ?_
  refine s_ hf (r_load_cell ty110 hf rfl (o1.cl.at_ 2 _ rfl)) fun a hf => ?_
  refine s_ hf (r_mul_u hf rfl rfl) fun a hf => ?_
  refine s_ hf (r_add_u hf rfl rfl) fun a hf => ?_
  refine s_ hf (r_nilck hf rfl) fun a hf => ?_
  refine s_ hf (r_fa fa112_2 hf rfl) fun a hf => ?_
  refine sk_ hf (r_store_c hw o1 (by decide) ty110 (Nat.le_of_ble_eq_true rfl) hf rfl rfl rfl rfl) fun a w hf hΦ => ?_
  obtain ⟨hw, hA, o1⟩ := hΦ
  replace oA := oA.adv hA (by decide)
  replace o1 : Va ρ w 1 g0 112 ([va0, vI a0.1, vU (wu ((wu (a0.2 * (6364136223846793005 : Int))) + (1442695040888963407 : Int)))]) := o1
  refine c_nt <| c_seq <| c_region ?_
  refine s_ hf (r_move hf rfl) fun a hf => ?_
  refine s_ hf (r_nilck hf rfl) fun a hf => ?_
  refine s_ hf (r_fa fa112_2 hf rfl) fun a hf => ?_
  refine s_ hf (r_load_cell ty110 hf rfl (o1.cl.at_ 2 _ rfl)) fun a hf => ?_
  refine s_ hf (r_shr_u hf rfl rfl (by decide)) fun a hf => ?_
  refine s_ hf (r_and_u hf rfl rfl) fun a hf => ?_
  refine s_ hf (r_conv_u64_i64 Try.underlying110 Try.underlying2 hf rfl) fun a hf => ?_
  refine s_ hf (r_assign hf rfl) fun a hf => ?_
  refine c_nt <| c_seq <| c_seq ?_
  replace hf : Fr 58 a [(0, .pointer (some ((⟨g0, 0, none⟩ : Addr).add 0))), (1, vI a1), (5, vI (w64 (andu (shru (wu ((wu (a0.2 * (6364136223846793005 : Int))) + (1442695040888963407 : Int))) (33 : Int)) (16777215 : Int))))] := hf.sub ⟨rfl, rfl, rfl, trivial⟩
  refine c_drawL (h := 9) mixed (by kernel_rfl) (by kernel_rfl) (fun ρ w => Old (oneOf ρ0 i) ws ρ w ∧ Va ρ w 1 g0 112 ([va0, vI a0.1, vU (wu ((wu (a0.2 * (6364136223846793005 : Int))) + (1442695040888963407 : Int)))])) ?_ [fun ρ w v => .pointer (some ((⟨g0, 0, none⟩ : Addr).add 0)) = v, fun ρ w v => .pointer (some ((⟨g0, 0, none⟩ : Addr).add 0)) = v, fun ρ w v => .pointer (some ((⟨g0, 0, none⟩ : Addr).add (0 + 1))) = v, fun ρ w v => vI a0.1 = v, fun ρ w v => .pointer (some ((⟨g0, 0, none⟩ : Addr).add 0)) = v, fun ρ w v => .pointer (some ((⟨g0, 0, none⟩ : Addr).add 0)) = v, fun ρ w v => .pointer (some ((⟨g0, 0, none⟩ : Addr).add (0 + 0))) = v, fun ρ w v => va0 = v, fun ρ w v => vI (a0c.length : Int) = v] ?_ hw ⟨oA, o1⟩ hf ?_ ?_
  · intro ρ w ρ' w' hE hG
    obtain ⟨oA, o1⟩ := hG
    exact ⟨oA.ext hE, o1.ext hE⟩
  · exact LastsL.cons (fun _ _ _ _ _ _ h => h) <| LastsL.cons (fun _ _ _ _ _ _ h => h) <| LastsL.cons (fun _ _ _ _ _ _ h => h) <| LastsL.cons (fun _ _ _ _ _ _ h => h) <| LastsL.cons (fun _ _ _ _ _ _ h => h) <| LastsL.cons (fun _ _ _ _ _ _ h => h) <| LastsL.cons (fun _ _ _ _ _ _ h => h) <| LastsL.cons (fun _ _ _ _ _ _ h => h) <| LastsL.cons (fun _ _ _ _ _ _ h => h) <| LastsL.nil
  · refine StepsB.cons ?_ <| StepsB.cons ?_ <| StepsB.cons ?_ <| StepsB.cons ?_ <| StepsB.cons ?_ <| StepsB.cons ?_ <| StepsB.cons ?_ <| StepsB.cons ?_ <| StepsB.cons ?_ <| StepsB.nil
    · intro ρ w a hw hG hf hd K hK
      obtain ⟨oA, o1⟩ := hG
      exact dv_ hK hw (wn rfl) (r_move hf rfl) rfl
    · intro ρ w a hw hG hf hd K hK
      obtain ⟨oA, o1⟩ := hG
      obtain ⟨_, hf, rfl⟩ := got (hd 0 (by kernel_rfl)) hf
      exact dv_ hK hw (wn rfl) (r_nilck hf rfl) rfl
    · intro ρ w a hw hG hf hd K hK
      obtain ⟨oA, o1⟩ := hG
      obtain ⟨_, hf, rfl⟩ := got (hd 1 (by kernel_rfl)) hf
      exact dv_ hK hw (wn rfl) (r_fa fa112_1 hf rfl) rfl
    · intro ρ w a hw hG hf hd K hK
      obtain ⟨oA, o1⟩ := hG
      obtain ⟨_, hf, rfl⟩ := got (hd 2 (by kernel_rfl)) hf
      exact dv_ hK hw (wn rfl) (r_load_cell ty3 hf rfl (o1.cl.at_ 1 _ rfl)) rfl
    · intro ρ w a hw hG hf hd K hK
      obtain ⟨oA, o1⟩ := hG
      exact dv_ hK hw (wn rfl) (r_move hf rfl) rfl
    · intro ρ w a hw hG hf hd K hK
      obtain ⟨oA, o1⟩ := hG
      obtain ⟨_, hf, rfl⟩ := got (hd 4 (by kernel_rfl)) hf
      exact dv_ hK hw (wn rfl) (r_nilck hf rfl) rfl
    · intro ρ w a hw hG hf hd K hK
      obtain ⟨oA, o1⟩ := hG
      obtain ⟨_, hf, rfl⟩ := got (hd 5 (by kernel_rfl)) hf
      exact dv_ hK hw (wn rfl) (r_fa fa112_0 hf rfl) rfl
    · intro ρ w a hw hG hf hd K hK
      obtain ⟨oA, o1⟩ := hG
      obtain ⟨_, hf, rfl⟩ := got (hd 6 (by kernel_rfl)) hf
      exact dv_ hK hw (wn rfl) (r_load_cell ty22 hf rfl (o1.cl.at_ 0 _ rfl)) rfl
    · intro ρ w a hw hG hf hd K hK
      obtain ⟨oA, o1⟩ := hG
      obtain ⟨_, hf, rfl⟩ := got (hd 7 (by kernel_rfl)) hf
      exact dv_ hK hw (wn rfl) (r_len Try.underlying22 (k0.now hw) hf rfl) rfl
  intro ρ w a hw hG hf hd
  obtain ⟨oA, o1⟩ := hG
  obtain ⟨_, hf, rfl⟩ := got (hd 3 (by decide)) hf
  obtain ⟨_, hf, rfl⟩ := got (hd 8 (by decide)) hf
  refine s_ hf (r_lss hf rfl rfl) fun a hf => ?_
  refine c_nt ?_
  rcases of_ite hF with ⟨hb2, hF⟩ | ⟨hb2, hF⟩
  rotate_left
  · refine c_iff hf rfl hb2 <| c_skip <| n_then <| c_seq <| c_region ?_
    refine s_ hf (r_move hf rfl) fun a hf => ?_
    refine s_ hf (r_move hf rfl) fun a hf => ?_
    obtain ⟨hc6, hF⟩ := of_guard hF
    refine s_ hf (r_rem hf rfl rfl hc6) fun a hf => ?_
    refine s_ hf (r_assign hf rfl) fun a hf => ?_
    refine c_nt <| c_retc ?_
    obtain rfl := Option.some.inj hF
    refine c_ret hf (res_tmp Try.results61 hf rfl) ?_
    exact ⟨_, rfl, s_nw hw oA, o1.blk, rfl⟩
  refine c_ift hf rfl hb2 <| c_seq ?_
  obtain ⟨hc3, hF⟩ := of_guard hF
  obtain ⟨ad4, c4, he4, hl4⟩ := Ro.el fU8 k0 0 hc3.1 hc3.2
  replace hf : Fr 58 a [(0, .pointer (some ((⟨g0, 0, none⟩ : Addr).add 0))), (1, vI a1), (5, vI (w64 (andu (shru (wu ((wu (a0.2 * (6364136223846793005 : Int))) + (1442695040888963407 : Int))) (33 : Int)) (16777215 : Int))))] := hf.sub ⟨rfl, rfl, rfl, trivial⟩
  refine c_drawL (h := 12) mixed (by kernel_rfl) (by kernel_rfl) (fun ρ w => Old (oneOf ρ0 i) ws ρ w ∧ Va ρ w 1 g0 112 ([va0, vI a0.1, vU (wu ((wu (a0.2 * (6364136223846793005 : Int))) + (1442695040888963407 : Int)))])) ?_ [fun ρ w v => vI (w64 (andu (shru (wu ((wu (a0.2 * (6364136223846793005 : Int))) + (1442695040888963407 : Int))) (33 : Int)) (16777215 : Int))) = v, fun ρ w v => .pointer (some ((⟨g0, 0, none⟩ : Addr).add 0)) = v, fun ρ w v => .pointer (some ((⟨g0, 0, none⟩ : Addr).add 0)) = v, fun ρ w v => .pointer (some ((⟨g0, 0, none⟩ : Addr).add (0 + 0))) = v, fun ρ w v => va0 = v, fun ρ w v => .pointer (some ((⟨g0, 0, none⟩ : Addr).add 0)) = v, fun ρ w v => .pointer (some ((⟨g0, 0, none⟩ : Addr).add 0)) = v, fun ρ w v => .pointer (some ((⟨g0, 0, none⟩ : Addr).add (0 + 1))) = v, fun ρ w v => vI a0.1 = v, fun ρ w v => .pointer (some (ad4.add (a0.1.toNat * 1))) = v, fun ρ w v => vB (gl 0 a0c a0.1) = v, fun ρ w v => vI ((gl 0 a0c a0.1).toNat : Int) = v] ?_ hw ⟨oA, o1⟩ hf ?_ ?_
  · intro ρ w ρ' w' hE hG
    obtain ⟨oA, o1⟩ := hG
    exact ⟨oA.ext hE, o1.ext hE⟩
  · exact LastsL.cons (fun _ _ _ _ _ _ h => h) <| LastsL.cons (fun _ _ _ _ _ _ h => h) <| LastsL.cons (fun _ _ _ _ _ _ h => h) <| LastsL.cons (fun _ _ _ _ _ _ h => h) <| LastsL.cons (fun _ _ _ _ _ _ h => h) <| LastsL.cons (fun _ _ _ _ _ _ h => h) <| LastsL.cons (fun _ _ _ _ _ _ h => h) <| LastsL.cons (fun _ _ _ _ _ _ h => h) <| LastsL.cons (fun _ _ _ _ _ _ h => h) <| LastsL.cons (fun _ _ _ _ _ _ h => h) <| LastsL.cons (fun _ _ _ _ _ _ h => h) <| LastsL.cons (fun _ _ _ _ _ _ h => h) <| LastsL.nil
  · refine StepsB.cons ?_ <| StepsB.cons ?_ <| StepsB.cons ?_ <| StepsB.cons ?_ <| StepsB.cons ?_ <| StepsB.cons ?_ <| StepsB.cons ?_ <| StepsB.cons ?_ <| StepsB.cons ?_ <| StepsB.cons ?_ <| StepsB.cons ?_ <| StepsB.cons ?_ <| StepsB.nil
    · intro ρ w a hw hG hf hd K hK
      obtain ⟨oA, o1⟩ := hG
      exact dv_ hK hw (wn rfl) (r_move hf rfl) rfl
    · intro ρ w a hw hG hf hd K hK
      obtain ⟨oA, o1⟩ := hG
      exact dv_ hK hw (wn rfl) (r_move hf rfl) rfl
    · intro ρ w a hw hG hf hd K hK
      obtain ⟨oA, o1⟩ := hG
      obtain ⟨_, hf, rfl⟩ := got (hd 1 (by kernel_rfl)) hf
      exact dv_ hK hw (wn rfl) (r_nilck hf rfl) rfl
    · intro ρ w a hw hG hf hd K hK
      obtain ⟨oA, o1⟩ := hG
      obtain ⟨_, hf, rfl⟩ := got (hd 2 (by kernel_rfl)) hf
      exact dv_ hK hw (wn rfl) (r_fa fa112_0 hf rfl) rfl
    · intro ρ w a hw hG hf hd K hK
      obtain ⟨oA, o1⟩ := hG
      obtain ⟨_, hf, rfl⟩ := got (hd 3 (by kernel_rfl)) hf
      exact dv_ hK hw (wn rfl) (r_load_cell ty22 hf rfl (o1.cl.at_ 0 _ rfl)) rfl
    · intro ρ w a hw hG hf hd K hK
      obtain ⟨oA, o1⟩ := hG
      exact dv_ hK hw (wn rfl) (r_move hf rfl) rfl
    · intro ρ w a hw hG hf hd K hK
      obtain ⟨oA, o1⟩ := hG
      obtain ⟨_, hf, rfl⟩ := got (hd 5 (by kernel_rfl)) hf
      exact dv_ hK hw (wn rfl) (r_nilck hf rfl) rfl
    · intro ρ w a hw hG hf hd K hK
      obtain ⟨oA, o1⟩ := hG
      obtain ⟨_, hf, rfl⟩ := got (hd 6 (by kernel_rfl)) hf
      exact dv_ hK hw (wn rfl) (r_fa fa112_1 hf rfl) rfl
    · intro ρ w a hw hG hf hd K hK
      obtain ⟨oA, o1⟩ := hG
      obtain ⟨_, hf, rfl⟩ := got (hd 7 (by kernel_rfl)) hf
      exact dv_ hK hw (wn rfl) (r_load_cell ty3 hf rfl (o1.cl.at_ 1 _ rfl)) rfl
    · intro ρ w a hw hG hf hd K hK
      obtain ⟨oA, o1⟩ := hG
      obtain ⟨_, hf, rfl⟩ := got (hd 4 (by kernel_rfl)) hf
      obtain ⟨_, hf, rfl⟩ := got (hd 8 (by kernel_rfl)) hf
      exact dv_ hK hw (wn rfl) (r_idx Try.underlying22 sz5 hf rfl ⟨_, he4⟩ rfl hc3.1 hc3.2) rfl
    · intro ρ w a hw hG hf hd K hK
      obtain ⟨oA, o1⟩ := hG
      obtain ⟨_, hf, rfl⟩ := got (hd 9 (by kernel_rfl)) hf
      exact dv_ hK hw (wn rfl) (r_load_cell ty5 hf rfl (hl4.below hw.below)) rfl
    · intro ρ w a hw hG hf hd K hK
      obtain ⟨oA, o1⟩ := hG
      obtain ⟨_, hf, rfl⟩ := got (hd 10 (by kernel_rfl)) hf
      exact dv_ hK hw (wn rfl) (r_conv_u8_i64 Try.underlying5 Try.underlying2 hf rfl) rfl
  intro ρ w a hw hG hf hd
  obtain ⟨oA, o1⟩ := hG
  obtain ⟨_, hf, rfl⟩ := got (hd 0 (by decide)) hf
  obtain ⟨_, hf, rfl⟩ := got (hd 11 (by decide)) hf
  refine s_ hf (r_add hf rfl rfl) fun a hf => ?_
  refine s_ hf (r_assign hf rfl) fun a hf => ?_
  refine c_nt <| c_region ?_
  refine s_ hf (r_move hf rfl) fun a hf => ?_
  refine s_ hf (r_move hf rfl) fun a hf => ?_
  refine s_ hf (r_nilck hf rfl) fun a hf => ?_
  refine s_ hf (r_fa fa112_1 hf rfl) fun a hf => ?_
  refine s_ hf (r_load_cell ty3 hf rfl (o1.cl.at_ 1 _ rfl)) fun a hf => ?_
  refine s_ hf (r_add hf rfl rfl) fun a hf => ?_
  refine s_ hf (r_nilck hf rfl) fun a hf => ?_
  refine s_ hf (r_fa fa112_1 hf rfl) fun a hf => ?_
  refine sk_ hf (r_store_c hw o1 (by decide) ty3 (Nat.le_of_ble_eq_true rfl) hf rfl rfl rfl rfl) fun a w hf hΦ => ?_
  obtain ⟨hw, hA, o1⟩ := hΦ
  replace oA := oA.adv hA (by decide)
  replace o1 : Va ρ w 1 g0 112 ([va0, vI (w64 (a0.1 + 1)), vU (wu ((wu (a0.2 * (6364136223846793005 : Int))) + (1442695040888963407 : Int)))]) := o1
  refine c_nt <| c_seq <| c_region ?_
  refine s_ hf (r_move hf rfl) fun a hf => ?_
  refine s_ hf (r_move hf rfl) fun a hf => ?_
  obtain ⟨hc5, hF⟩ := of_guard hF
  refine s_ hf (r_rem hf rfl rfl hc5) fun a hf => ?_
  refine s_ hf (r_assign hf rfl) fun a hf => ?_
  refine c_nt <| c_retc ?_
  obtain rfl := Option.some.inj hF
  refine c_ret hf (res_tmp Try.results61 hf rfl) ?_
  exact ⟨_, rfl, s_nw hw oA, o1.blk, rfl⟩
/-! f60 -/
noncomputable def spec_l01Pick (a0c : List UInt8) (a0 : (Int × Int)) (a1 : List Int) : Option (Int × (Int × Int)) :=
  (spec_l01Next a0c a0 (a1.length : Int)).bind fun x1 => if 0 ≤ x1.1 ∧ x1.1 < (a1.length : Int) then (some ((gl 0 a1 x1.1, x1.2))) else none
theorem spec_l01Pick_ok {w0 ws : World} {ρ0 : Nat → Nat} {i : Nat} (hi : i ≠ 0) (hW : Wd w0 ρ0 ws) {a0c : List UInt8} {a0 : (Int × Int)} {a1 : List Int} {g0 : Nat} {va0 : Value} {va1 : Value} (h0 : Va ρ0 ws i g0 112 [va0, vI a0.1, vU a0.2]) (k0 : Ro (kf fU8) w0 va0 a0c) (h1 : Fg (kf fI64) 2 ρ0 ws w0 i va1 a1) {r : Int × (Int × Int)} (hF : spec_l01Pick a0c a0 a1 = some r) :
    Calls Try.prog 60 [.pointer (some ((⟨g0, 0, none⟩ : Addr).add 0)), va1].toArray ws fun e w => ∃ v, e = .returned v ∧ Nw i ρ0 w0 ws w ∧ Vc w g0 112 [va0, vI r.2.1, vU r.2.2] ∧ .int .i64 r.1 = v := by
  refine calls_of (k := 12) Try.func60 rfl rfl (Nat.le_of_ble_eq_true rfl) fun a hf => ?_
  replace hf : Fr 12 a [(0, .pointer (some ((⟨g0, 0, none⟩ : Addr).add 0))), (1, va1)] := hf
  refine c_starts hi hW h0 fun w ρ hw oA o1 hR => ?_
  unfold spec_l01Pick at hF
  have o2 : Ow (kf fI64) 2 ρ w w0.heap.size 0 va1 a1 := hR h1
  refine c_seq <| c_region ?_
  refine s_ hf (r_assign hf rfl) fun a hf => ?_
  refine c_nt <| c_seq <| c_region ?_
  refine s_ hf (r_move hf rfl) fun a hf => ?_
  refine s_ hf (r_move hf rfl) fun a hf => ?_
  refine s_ hf (r_move hf rfl) fun a hf => ?_
  refine s_ hf (r_len Try.underlying36 o2.ro hf rfl) fun a hf => ?_
  obtain ⟨x1, hx2, hF⟩ := of_bind hF
  refine st_mfn hf rfl rfl (by decide) (r_fn en61 hf rfl) (src_go 3 (by decide) hw o1 (spec_l01Next_ok (by decide) hw o1 k0 hx2)) fun a vc3 w ρ hf hw hA hΦ => ?_
  obtain ⟨hV, hN, hVc, rfl⟩ := hΦ
  replace oA := oA.adv hA (by decide)
  replace o2 := o2.adv hA (by decide)
  replace o1 := hV hVc
  obtain ⟨hc4, hF⟩ := of_guard hF
  obtain ⟨ad5, c5, he5, hl5⟩ := Ro.el fI64 o2.ro 0 hc4.1 hc4.2
  refine s_ hf (r_idx Try.underlying36 sz2 hf rfl ⟨_, he5⟩ rfl hc4.1 hc4.2) fun a hf => ?_
  refine s_ hf (r_load_cell ty2 hf rfl hl5) fun a hf => ?_
  refine s_ hf (r_assign hf rfl) fun a hf => ?_
  refine c_nt <| c_retc ?_
  obtain rfl := Option.some.inj hF
  refine c_ret hf (res_tmp Try.results60 hf rfl) ?_
  exact ⟨_, rfl, s_nw hw oA, o1.blk, rfl⟩
/-! f104 -/
noncomputable def spec_l04Draw_l14 (a0c : List UInt8) (a1 : Int) (a2 : Int) (s15 : Int) (s16 : Int) (s17 : Int) (s18 : List Int) : Option (LR (Int × Int × Int × (List Int)) (List (List Int) × (Int × Int))) :=
  if (decide (s15 < a2)) = true then ((spec_l01Next a0c (s16, s17) a1).bind fun x21 => if (s18.length + ([x21.1]).length) * 8 ≤ 140737488355328 then (some (.next (w64 (s15 + 1), x21.2.1, x21.2.2, (s18 ++ [x21.1])))) else none) else (some (.stop (s15, s16, s17, s18)))
noncomputable def spec_l04Draw_l5 (a0c : List UInt8) (a1 : Int) (a2 : Int) (s6 : Int) (s7 : Int) (s8 : Int) (s9 : List Nat) (s10 : List (List Int)) : Option (LR (Int × Int × Int × (List Nat) × (List (List Int))) (List (List Int) × (Int × Int))) :=
  if (decide (s6 < a2)) = true then ((iter (fun s => spec_l04Draw_l14 a0c a1 a2 s.1 s.2.1 s.2.2.1 s.2.2.2) (0, s7, s8, ([] : List Int))).bind fun o => match o with | .stop (s15, s16, s17, s18) => (if (s9.length + 1) * 24 ≤ 140737488355328 then (some (.next (w64 (s6 + 1), s16, s17, (s9 ++ [s10.length]), (s10 ++ [s18])))) else none) | .ret r => some (.ret r) | .next _ => none) else (some (.stop (s6, s7, s8, s9, s10)))
noncomputable def spec_l04Draw_l1 (a0c : List UInt8) (a1 : Int) (a2 : Int) (s2 : Int) (s3 : Int) (s4 : Int) : Option (LR (Int × Int × Int) (List (List Int) × (Int × Int))) :=
  (iter (fun s => spec_l04Draw_l5 a0c a1 a2 s.1 s.2.1 s.2.2.1 s.2.2.2.1 s.2.2.2.2) (0, s3, s4, ([] : List Nat), ([] : List (List Int)))).bind fun o => match o with | .stop (s6, s7, s8, s9, s10) => ((spec_l04Inverse a1 (gi s9 s10)).bind fun x29 => (if x29.2 = true then (some true) else (some (decide (4 < s2)))).bind fun (s34 : Bool) => if s34 = true then (if s9.Nodup then some (.ret ((gi s9 s10), (s7, s8))) else none) else (some (.next (w64 (s2 + 1), s7, s8)))) | .ret r => some (.ret r) | .next _ => none
noncomputable def spec_l04Draw (a0c : List UInt8) (a0 : (Int × Int)) (a1 : Int) (a2 : Int) : Option (List (List Int) × (Int × Int)) :=
  (iter (fun s => spec_l04Draw_l1 a0c a1 a2 s.1 s.2.1 s.2.2) (0, a0.1, a0.2)).bind fun o => match o with | .stop _ => (none) | .ret r => some r | .next _ => none
theorem spec_l04Draw_ok {w0 ws : World} {ρ0 : Nat → Nat} {i : Nat} (hi : i ≠ 0) (hW : Wd w0 ρ0 ws) {a0c : List UInt8} {a0 : (Int × Int)} {a1 : Int} {a2 : Int} {g0 : Nat} {va0 : Value} (h0 : Va ρ0 ws i g0 112 [va0, vI a0.1, vU a0.2]) (k0 : Ro (kf fU8) w0 va0 a0c) {r : List (List Int) × (Int × Int)} (hF : spec_l04Draw a0c a0 a1 a2 = some r) :
    Calls Try.prog 104 [.pointer (some ((⟨g0, 0, none⟩ : Addr).add 0)), vI a1, vI a2].toArray ws fun e w => ∃ v, e = .returned v ∧ Nw i ρ0 w0 ws w ∧ Vc w g0 112 [va0, vI r.2.1, vU r.2.2] ∧ (∃ u0, u0 = v ∧ GFresh fI64 2 36 ws w u0 r.1) := by
  refine calls_of (k := 50) Try.func104 rfl rfl (Nat.le_of_ble_eq_true rfl) fun a hf => ?_
  replace hf : Fr 50 a [(0, .pointer (some ((⟨g0, 0, none⟩ : Addr).add 0))), (1, vI a1), (2, vI a2)] := hf
  refine c_starts hi hW h0 fun w ρ hw oA o1 hR => ?_
  unfold spec_l04Draw at hF
  refine c_seq <| c_region ?_
  have o2 : Ow (Kd.slice 2 (kf fI64)) 36 ρ w w0.heap.size 2 (.slice none 0 0) [] := Ow.nil _ _ _ _ _ _
  refine s_ hf (r_assign hf rfl) fun a hf => ?_
  refine c_nt <| c_seq <| c_region ?_
  refine s_ hf (r_assign hf rfl) fun a hf => ?_
  refine c_nt ?_
  obtain ⟨ol1, ho1, hG1⟩ := of_bind hF
  clear hF
  refine c_block (c_loop (id := 0) (fun s => spec_l04Draw_l1 a0c a1 a2 s.1 s.2.1 s.2.2) (fun (s : Int × Int × Int) a w => match s with | (s2, s3, s4) => ∃ ρ, Wd w0 ρ w ∧ Fr 50 a [(0, .pointer (some ((⟨g0, 0, none⟩ : Addr).add 0))), (1, vI a1), (2, vI a2), (7, vI s2)] ∧ Old (oneOf ρ0 i) ws ρ w ∧ Va ρ w 1 g0 112 ([va0, vI s3, vU s4])) (fun (s : Int × Int × Int) a w => match s with | (s2, s3, s4) => ∃ ρ, Wd w0 ρ w ∧ Fr 50 a [] ∧ Old (oneOf ρ0 i) ws ρ w ∧ Va ρ w 1 g0 112 ([va0, vI s3, vU s4])) ho1 ⟨_, hw, hf.sub ⟨rfl, rfl, rfl, rfl, trivial⟩, oA, o1⟩ ?_ ?_)
  · rintro ⟨s2, s3, s4⟩ lr a w ⟨ρ, hw, hf, oA, o1⟩ hF
    replace hF : spec_l04Draw_l1 a0c a1 a2 s2 s3 s4 = some lr := hF
    unfold spec_l04Draw_l1 at hF
    refine c_seq <| c_block <| c_seq <| c_region ?_
    refine sx_ hf (r_lit_none (d := (Kd.slice 2 (kf fI64))) 3 Try.underlying24 el36 hw) fun a v3 w hf hΦ => ?_
    obtain ⟨ρ, hw, hE, o3⟩ := hΦ
    replace oA := oA.ext hE
    replace o1 := o1.ext hE
    replace o3 : Gd fI64 2 36 ρ w w0.heap.size 3 v3 (fun _ => (⟨.bool false, rfl⟩ : V1)) ([] : List Nat) ([] : List (List Int)) := Gd.empty o3 rfl (by decide) _
    refine s_ hf (r_assign hf rfl) fun a hf => ?_
    refine c_nt <| c_seq <| c_seq <| c_region ?_
    refine s_ hf (r_assign hf rfl) fun a hf => ?_
    refine c_nt ?_
    obtain ⟨ol5, ho5, hG5⟩ := of_bind hF
    clear hF
    refine c_block (c_loop (id := 2) (fun s => spec_l04Draw_l5 a0c a1 a2 s.1 s.2.1 s.2.2.1 s.2.2.2.1 s.2.2.2.2) (fun (s : Int × Int × Int × (List Nat) × (List (List Int))) a w => match s with | (s6, s7, s8, s9, s10) => ∃ ρ vv11 f12, Wd w0 ρ w ∧ Fr 50 a [(0, .pointer (some ((⟨g0, 0, none⟩ : Addr).add 0))), (1, vI a1), (2, vI a2), (7, vI s2), (8, vv11), (9, vI s6)] ∧ Old (oneOf ρ0 i) ws ρ w ∧ Va ρ w 1 g0 112 ([va0, vI s7, vU s8]) ∧ Gd fI64 2 36 ρ w w0.heap.size 3 vv11 f12 s9 s10) (fun (s : Int × Int × Int × (List Nat) × (List (List Int))) a w => match s with | (s6, s7, s8, s9, s10) => ∃ ρ vv11 f12, Wd w0 ρ w ∧ Fr 50 a [(0, .pointer (some ((⟨g0, 0, none⟩ : Addr).add 0))), (1, vI a1), (2, vI a2), (7, vI s2), (8, vv11)] ∧ Old (oneOf ρ0 i) ws ρ w ∧ Va ρ w 1 g0 112 ([va0, vI s7, vU s8]) ∧ Gd fI64 2 36 ρ w w0.heap.size 3 vv11 f12 s9 s10) ho5 ⟨_, _, _, hw, hf.sub ⟨rfl, rfl, rfl, rfl, rfl, rfl, trivial⟩, oA, o1, o3⟩ ?_ ?_)
    · rintro ⟨s6, s7, s8, s9, s10⟩ lr a w ⟨ρ, vv11, f12, hw, hf, oA, o1, o3⟩ hF
      replace hF : spec_l04Draw_l5 a0c a1 a2 s6 s7 s8 s9 s10 = some lr := hF
      unfold spec_l04Draw_l5 at hF
      refine c_seq <| c_seq <| c_region ?_
      refine s_ hf (r_move hf rfl) fun a hf => ?_
      refine s_ hf (r_move hf rfl) fun a hf => ?_
      refine s_ hf (r_lss hf rfl rfl) fun a hf => ?_
      refine c_nt ?_
      rcases of_ite hF with ⟨hb13, hF⟩ | ⟨hb13, hF⟩
      rotate_left
      · refine c_iff hf rfl hb13 <| c_exit <| x_then ?_
        obtain rfl := Option.some.inj hF
        exact Rnd.stops ⟨_, _, _, hw, hf.sub ⟨rfl, rfl, rfl, rfl, rfl, trivial⟩, oA, o1, o3⟩
      refine c_ift hf rfl hb13 <| c_skip <| n_then <| c_seq <| c_block <| c_seq <| c_region ?_
      refine sx_ hf (r_lit (d := fI64) (xs := ([] : List Int)) (vs := []) 4 Try.underlying36 el2 (Nat.le_of_ble_eq_true rfl) (Nat.le_of_ble_eq_true rfl) hw hf rfl rfl rfl) fun a v4 w hf hΦ => ?_
      obtain ⟨ρ, hw, hE, o4⟩ := hΦ
      replace oA := oA.ext hE
      replace o1 := o1.ext hE
      replace o3 := o3.ext hE
      refine s_ hf (r_assign hf rfl) fun a hf => ?_
      refine c_nt <| c_seq <| c_seq <| c_region ?_
      refine s_ hf (r_assign hf rfl) fun a hf => ?_
      refine c_nt ?_
      obtain ⟨ol14, ho14, hG14⟩ := of_bind hF
      clear hF
      refine c_block (c_loop (id := 4) (fun s => spec_l04Draw_l14 a0c a1 a2 s.1 s.2.1 s.2.2.1 s.2.2.2) (fun (s : Int × Int × Int × (List Int)) a w => match s with | (s15, s16, s17, s18) => ∃ ρ vv19, Wd w0 ρ w ∧ Fr 50 a [(0, .pointer (some ((⟨g0, 0, none⟩ : Addr).add 0))), (1, vI a1), (2, vI a2), (7, vI s2), (8, vv11), (9, vI s6), (10, vv19), (11, vI s15)] ∧ Old (oneOf ρ0 i) ws ρ w ∧ Va ρ w 1 g0 112 ([va0, vI s16, vU s17]) ∧ Gd fI64 2 36 ρ w w0.heap.size 3 vv11 f12 s9 s10 ∧ O2 ρ w w0 4 vv19 s18) (fun (s : Int × Int × Int × (List Int)) a w => match s with | (s15, s16, s17, s18) => ∃ ρ vv19, Wd w0 ρ w ∧ Fr 50 a [(0, .pointer (some ((⟨g0, 0, none⟩ : Addr).add 0))), (1, vI a1), (2, vI a2), (7, vI s2), (8, vv11), (9, vI s6), (10, vv19)] ∧ Old (oneOf ρ0 i) ws ρ w ∧ Va ρ w 1 g0 112 ([va0, vI s16, vU s17]) ∧ Gd fI64 2 36 ρ w w0.heap.size 3 vv11 f12 s9 s10 ∧ O2 ρ w w0 4 vv19 s18) ho14 ⟨_, _, hw, hf.sub ⟨rfl, rfl, rfl, rfl, rfl, rfl, rfl, rfl, trivial⟩, oA, o1, o3, o4⟩ ?_ ?_)
      · rintro ⟨s15, s16, s17, s18⟩ lr a w ⟨ρ, vv19, hw, hf, oA, o1, o3, o4⟩ hF
        replace hF : spec_l04Draw_l14 a0c a1 a2 s15 s16 s17 s18 = some lr := hF
        unfold spec_l04Draw_l14 at hF
        refine c_seq <| c_seq <| c_region ?_
        refine s_ hf (r_move hf rfl) fun a hf => ?_
        refine s_ hf (r_move hf rfl) fun a hf => ?_
        refine s_ hf (r_lss hf rfl rfl) fun a hf => ?_
        refine c_nt ?_
        rcases of_ite hF with ⟨hb20, hF⟩ | ⟨hb20, hF⟩
        rotate_left
        · refine c_iff hf rfl hb20 <| c_exit <| x_then ?_
          obtain rfl := Option.some.inj hF
          exact Rnd.stops ⟨_, _, hw, hf.sub ⟨rfl, rfl, rfl, rfl, rfl, rfl, rfl, trivial⟩, oA, o1, o3, o4⟩
        refine c_ift hf rfl hb20 <| c_skip <| n_then <| c_seq <| c_block <| c_region ?_
        refine s_ hf (r_move hf rfl) fun a hf => ?_
        refine s_ hf (r_move hf rfl) fun a hf => ?_
        refine s_ hf (r_move hf rfl) fun a hf => ?_
        obtain ⟨x21, hx22, hF⟩ := of_bind hF
        refine st_mfn hf rfl rfl (by decide) (r_fn en61 hf rfl) (src_go 5 (by decide) hw o1 (spec_l01Next_ok (by decide) hw o1 k0 hx22)) fun a vc23 w ρ hf hw hA hΦ => ?_
        obtain ⟨hV, hN, hVc, rfl⟩ := hΦ
        replace oA := oA.adv hA (by decide)
        replace o3 := o3.adv hA (by decide) (fun _ => by unfold lab; omega)
        replace o4 := o4.adv hA (by decide)
        replace o1 := hV hVc
        refine sx_ hf (r_lit (d := fI64) (xs := ([x21.1] : List Int)) (vs := [vI x21.1]) 6 Try.underlying36 el2 (Nat.le_of_ble_eq_true rfl) (Nat.le_of_ble_eq_true rfl) hw hf rfl rfl rfl) fun a v6 w hf hΦ => ?_
        obtain ⟨ρ, hw, hE, o6⟩ := hΦ
        replace oA := oA.ext hE
        replace o1 := o1.ext hE
        replace o3 := o3.ext hE
        replace o4 := o4.ext hE
        obtain ⟨hc24, hF⟩ := of_guard hF
        refine sx_ hf (r_append Try.underlying36 el2 hw (by decide) o4 o6.ro hc24 hf rfl rfl) fun a va25 w hf hΦ => ?_
        obtain ⟨ρ, hw, hA, o4⟩ := hΦ
        replace oA := oA.adv hA (by decide)
        replace o1 := o1.adv hA (by decide)
        replace o3 := o3.adv hA (by decide) (fun _ => by unfold lab; omega)
        replace o6 := o6.adv hA (by decide)
        refine s_ hf (r_assign hf rfl) fun a hf => ?_
        refine c_nil <| n_block <| n_then <| c_region ?_
        refine s_ hf (r_move hf rfl) fun a hf => ?_
        refine s_ hf (r_add hf rfl rfl) fun a hf => ?_
        refine s_ hf (r_assign hf rfl) fun a hf => ?_
        refine c_nil ?_
        obtain rfl := Option.some.inj hF
        exact Rnd.goes ⟨_, _, hw, hf.sub ⟨rfl, rfl, rfl, rfl, rfl, rfl, rfl, rfl, trivial⟩, oA, o1, o3, o4⟩
      rintro ⟨s15, s16, s17, s18⟩ a w hs ⟨ρ, vv19, hw, hf, oA, o1, o3, o4⟩
      subst hs
      have hF := hG14
      dsimp only at hF
      refine x_block <| n_then <| c_region ?_
      refine s_ hf (r_move hf rfl) fun a hf => ?_
      refine s_ hf (r_move hf rfl) fun a hf => ?_
      refine sx_ hf (r_glit 7 Try.underlying24 el36 hw hf rfl o4) fun a v7 w hf hΦ => ?_
      obtain ⟨ρ, hw, hE, o7⟩ := hΦ
      replace oA := oA.ext hE
      replace o1 := o1.ext hE
      replace o3 := o3.ext hE
      replace o4 := o4.ext hE
      obtain ⟨hc26, hF⟩ := of_guard hF
      refine sx_ hf (r_gapp' Try.underlying24 el36 hw (by decide) (by decide) (fun _ => by unfold lab; omega) o3 o7 o4 hc26 hf rfl rfl) fun a va27 w hf hΦ => ?_
      obtain ⟨f27, ρ, hw, hT, o3, hff27, hnu27⟩ := hΦ
      replace oA := oA.tr2 (hT 0 (by decide) (by decide)) (hT 1 (by decide) (by decide))
      replace o1 := o1.tr (hT 1 (by decide) (by decide))
      rw [hnu27] at hf
      have hn28 : s10.length < (s10 ++ [s18]).length := by simp
      refine s_ hf (r_assign hf rfl) fun a hf => ?_
      refine c_nil <| n_block <| n_then <| c_region ?_
      refine s_ hf (r_move hf rfl) fun a hf => ?_
      refine s_ hf (r_add hf rfl rfl) fun a hf => ?_
      refine s_ hf (r_assign hf rfl) fun a hf => ?_
      refine c_nil ?_
      obtain rfl := Option.some.inj hF
      exact Rnd.goes ⟨_, _, _, hw, hf.sub ⟨rfl, rfl, rfl, rfl, rfl, rfl, trivial⟩, oA, o1, o3⟩
    rintro ⟨s6, s7, s8, s9, s10⟩ a w hs ⟨ρ, vv11, f12, hw, hf, oA, o1, o3⟩
    subst hs
    have hF := hG5
    dsimp only at hF
    refine x_block <| n_then <| c_seq <| c_region ?_
    refine s_ hf (r_move hf rfl) fun a hf => ?_
    refine s_ hf (r_move hf rfl) fun a hf => ?_
    obtain ⟨x29, hx30, hF⟩ := of_bind hF
    refine st_fn 9 hw hf rfl rfl (by decide) (r_fn en57 hf rfl) (spec_l04Inverse_ok o3.ro hx30) fun a v w ρ hf hw hE hN hΦ => ?_
    obtain ⟨u31, rfl, hr32⟩ := hΦ
    replace oA := oA.ext hE
    replace o1 := o1.ext hE
    replace o3 := o3.ext hE
    have o9 := hN hr32
    refine s_ hf (r_move hf rfl) fun a hf => ?_
    refine s_ hf (r_extract hf rfl rfl) fun a hf => ?_
    refine s_ hf (r_extract hf rfl rfl) fun a hf => ?_
    refine s_ hf (r_assign hf rfl) fun a hf => ?_
    refine s_ hf (r_assign hf rfl) fun a hf => ?_
    refine c_nt <| c_seq ?_
    obtain ⟨s34, hT33, hG33⟩ := of_bind hF
    clear hF
    refine c_meet (fun (s34 : Bool) a w => ∃ ρ, Wd w0 ρ w ∧ Fr 50 a [(0, .pointer (some ((⟨g0, 0, none⟩ : Addr).add 0))), (1, vI a1), (2, vI a2), (7, vI s2), (8, vv11), (48, .bool s34)] ∧ Old (oneOf ρ0 i) ws ρ w ∧ Va ρ w 1 g0 112 ([va0, vI s7, vU s8]) ∧ Gd fI64 2 36 ρ w w0.heap.size 3 vv11 f12 s9 s10) s34 ?_ ?_
    · have hF := hT33
      refine c_region ?_
      refine s_ hf (r_move hf rfl) fun a hf => ?_
      refine s_ hf (r_move hf rfl) fun a hf => ?_
      rcases of_ite hF with ⟨hb35, hF⟩ | ⟨hb35, hF⟩
      · refine st_no (b := true) hf rfl rfl rfl hb35 rfl (by decide) fun a hf => ?_
        refine st_no (b := true) hf rfl rfl rfl hb35 rfl (by decide) fun a hf => ?_
        refine s_ hf (r_pick (b := true) hf rfl hb35 rfl) fun a hf => ?_
        refine c_nil ⟨rfl, ?_⟩
        obtain rfl := Option.some.inj hF
        exact ⟨_, hw, hf.sub ⟨rfl, rfl, rfl, rfl, rfl, rfl, trivial⟩, oA, o1, o3⟩
      refine st_g (b := false) hf rfl rfl rfl hb35 rfl (by decide) (r_move hf rfl) fun a hf => ?_
      refine st_g (b := false) hf rfl rfl rfl hb35 rfl (by decide) (r_gtr hf rfl rfl) fun a hf => ?_
      refine s_ hf (r_pick (b := false) hf rfl hb35 rfl) fun a hf => ?_
      refine c_nil ⟨rfl, ?_⟩
      obtain rfl := Option.some.inj hF
      exact ⟨_, hw, hf.sub ⟨rfl, rfl, rfl, rfl, rfl, rfl, trivial⟩, oA, o1, o3⟩
    rintro a w ⟨ρ, hw, hf, oA, o1, o3⟩
    have hF := hG33
    refine n_then ?_
    rcases of_ite hF with ⟨hb36, hF⟩ | ⟨hb36, hF⟩
    rotate_left
    · refine c_iff hf rfl hb36 <| c_skip <| n_block <| n_then <| c_region ?_
      refine s_ hf (r_move hf rfl) fun a hf => ?_
      refine s_ hf (r_add hf rfl rfl) fun a hf => ?_
      refine s_ hf (r_assign hf rfl) fun a hf => ?_
      refine c_nil ?_
      obtain rfl := Option.some.inj hF
      exact Rnd.goes ⟨_, hw, hf.sub ⟨rfl, rfl, rfl, rfl, trivial⟩, oA, o1⟩
    refine c_ift hf rfl hb36 <| c_seq <| c_region ?_
    refine s_ hf (r_move hf rfl) fun a hf => ?_
    refine s_ hf (r_assign hf rfl) fun a hf => ?_
    refine c_nt <| c_retc ?_
    obtain ⟨hnd, hF⟩ := of_guard hF
    obtain rfl := Option.some.inj hF
    refine r_block <| r_then ?_
    refine Rnd.rets fun ho => ?_
    subst ho
    have hF := hG1
    dsimp only at hF
    obtain rfl := Option.some.inj hF
    refine r_block <| c_ret hf (res_tmp Try.results104 hf rfl) ?_
    exact ⟨_, rfl, s_nw hw oA, o1.blk, _, rfl, s_ng oA (by decide) o3 hnd⟩
  rintro s a w hs _
  subst hs
  cases hG1
/-! f52 -/
noncomputable def spec_l04Of (a0 : List UInt8) : Option (Int × List (List Int)) :=
  (spec_l01From a0).bind fun x1 => (spec_l01Pick a0 x1 ([2, 3, 5])).bind fun x5 => (spec_l01Next a0 x5.2 3).bind fun x8 => (spec_l04Draw a0 x8.2 x5.1 (w64 (1 + x8.1))).bind fun x11 => (spec_l01Next a0 x11.2 3).bind fun x15 => if (decide (x15.1 = 0)) = true then (if (([] : List Nat).length + (List.range x11.1.length).length) * 24 ≤ 140737488355328 then (if 0 ≤ w64 (((List.range x11.1.length).length : Int) - 1) ∧ w64 (((List.range x11.1.length).length : Int) - 1) < ((List.range x11.1.length).length : Int) then ((spec_l01Own (x11.1.getD (gl 0 (List.range x11.1.length) (w64 (((List.range x11.1.length).length : Int) - 1))) [])).bind fun x23 => if 0 ≤ (0 : Int) ∧ (0 : Int) < ((List.range x11.1.length).length : Int) then ((spec_l01Next a0 x15.2 24).bind fun x31 => if (decide (x31.1 = 0)) = true then ((spec_l01Pick a0 x31.2 ([0, 4, 7])).bind fun x35 => some ((x35.1, (gi ((List.range x11.1.length).set (0 : Int).toNat x11.1.length) (x11.1 ++ [x23]))))) else (if (decide (x31.1 = 1)) = true then (if 0 ≤ (1 : Int) ∧ (1 : Int) ≤ ((gi ((List.range x11.1.length).set (0 : Int).toNat x11.1.length) (x11.1 ++ [x23])).length : Int) then (some ((x5.1, (((gi ((List.range x11.1.length).set (0 : Int).toNat x11.1.length) (x11.1 ++ [x23])).take ((gi ((List.range x11.1.length).set (0 : Int).toNat x11.1.length) (x11.1 ++ [x23])).length : Int).toNat).drop (1 : Int).toNat)))) else none) else (if (decide (x31.1 = 2)) = true then (if 0 ≤ (0 : Int) ∧ (0 : Int) < (((List.range x11.1.length).set (0 : Int).toNat x11.1.length).length : Int) then (if 0 ≤ (0 : Int) ∧ (0 : Int) < (((x11.1 ++ [x23]).getD (gl 0 ((List.range x11.1.length).set (0 : Int).toNat x11.1.length) (0 : Int)) []).length : Int) then (some ((x5.1, (gi ((List.range x11.1.length).set (0 : Int).toNat x11.1.length) ((x11.1 ++ [x23]).set (gl 0 ((List.range x11.1.length).set (0 : Int).toNat x11.1.length) (0 : Int)) (((x11.1 ++ [x23]).getD (gl 0 ((List.range x11.1.length).set (0 : Int).toNat x11.1.length) (0 : Int)) []).set (0 : Int).toNat x5.1)))))) else none) else none) else (some ((x5.1, (gi ((List.range x11.1.length).set (0 : Int).toNat x11.1.length) (x11.1 ++ [x23])))))))) else none) else none) else none) else ((spec_l01Next a0 x15.2 24).bind fun x45 => if (decide (x45.1 = 0)) = true then ((spec_l01Pick a0 x45.2 ([0, 4, 7])).bind fun x49 => some ((x49.1, (gi (List.range x11.1.length) x11.1)))) else (if (decide (x45.1 = 1)) = true then (if 0 ≤ (1 : Int) ∧ (1 : Int) ≤ ((gi (List.range x11.1.length) x11.1).length : Int) then (some ((x5.1, (((gi (List.range x11.1.length) x11.1).take ((gi (List.range x11.1.length) x11.1).length : Int).toNat).drop (1 : Int).toNat)))) else none) else (if (decide (x45.1 = 2)) = true then (if 0 ≤ (0 : Int) ∧ (0 : Int) < ((List.range x11.1.length).length : Int) then (if 0 ≤ (0 : Int) ∧ (0 : Int) < ((x11.1.getD (gl 0 (List.range x11.1.length) (0 : Int)) []).length : Int) then (some ((x5.1, (gi (List.range x11.1.length) (x11.1.set (gl 0 (List.range x11.1.length) (0 : Int)) ((x11.1.getD (gl 0 (List.range x11.1.length) (0 : Int)) []).set (0 : Int).toNat x5.1)))))) else none) else none) else (some ((x5.1, (gi (List.range x11.1.length) x11.1)))))))
theorem spec_l04Of_ok {w0 : World} {a0 : List UInt8} {va0 : Value} (h0 : Ro (kf fU8) w0 va0 a0) {r : Int × List (List Int)} (hF : spec_l04Of a0 = some r) :
    Calls Try.prog 52 [va0].toArray w0 fun e w => ∃ v, e = .returned v ∧ Below w0.heap.size w0 w ∧ ∃ u1, .tuple #[.int .i64 r.1, u1] = v ∧ Ro (Kd.slice 2 (kf fI64)) w u1 r.2 := by
  refine calls_of (k := 56) Try.func52 rfl rfl (Nat.le_of_ble_eq_true rfl) fun a hf => ?_
  replace hf : Fr 56 a [(0, va0)] := hf
  refine c_start fun w ρ hw => ?_
  unfold spec_l04Of at hF
  refine c_seq <| c_region ?_
  refine s_ hf (r_assign hf rfl) fun a hf => ?_
  have o1 : Ow (Kd.slice 2 (kf fI64)) 36 ρ w w0.heap.size 1 (.slice none 0 0) [] := Ow.nil _ _ _ _ _ _
  refine s_ hf (r_assign hf rfl) fun a hf => ?_
  refine c_nt <| c_seq <| c_region ?_
  refine s_ hf (r_move hf rfl) fun a hf => ?_
  obtain ⟨x1, hx2, hF⟩ := of_bind hF
  refine st_fnp 2 hw hf rfl rfl (by decide) (r_fn en59 hf rfl) (spec_l01From_ok (h0.now hw) hx2) fun a v w ρ hf hw hE hN hΦ => ?_
  obtain ⟨u3, rfl, hr4⟩ := hΦ
  replace o1 := o1.ext hE
  have o2 := hN hr4
  refine s_ hf (r_assign hf rfl) fun a hf => ?_
  refine c_nt <| c_seq <| c_region ?_
  refine s_ hf (r_move hf rfl) fun a hf => ?_
  refine sx_ hf (r_lit (d := fI64) (xs := ([2, 3, 5] : List Int)) (vs := [vI 2, vI 3, vI 5]) 3 Try.underlying36 el2 (Nat.le_of_ble_eq_true rfl) (Nat.le_of_ble_eq_true rfl) hw hf rfl rfl rfl) fun a v3 w hf hΦ => ?_
  obtain ⟨ρ, hw, hE, o3⟩ := hΦ
  replace o1 := o1.ext hE
  replace o2 := o2.ext hE
  obtain ⟨x5, hx6, hF⟩ := of_bind hF
  refine st_mfn hf rfl rfl (by decide) (r_fn en60 hf rfl) (src_go 4 (by decide) hw o2 (spec_l01Pick_ok (by decide) hw o2 h0 ⟨_, (by decide), o3⟩ hx6)) fun a vc7 w ρ hf hw hA hΦ => ?_
  obtain ⟨hV, hN, hVc, rfl⟩ := hΦ
  replace o1 := o1.adv hA (by decide)
  replace o3 := o3.adv hA (by decide)
  replace o2 := hV hVc
  refine s_ hf (r_assign hf rfl) fun a hf => ?_
  refine c_nt <| c_seq <| c_region ?_
  refine s_ hf (r_move hf rfl) fun a hf => ?_
  refine s_ hf (r_move hf rfl) fun a hf => ?_
  refine s_ hf (r_move hf rfl) fun a hf => ?_
  obtain ⟨x8, hx9, hF⟩ := of_bind hF
  refine st_mfn hf rfl rfl (by decide) (r_fn en61 hf rfl) (src_go 5 (by decide) hw o2 (spec_l01Next_ok (by decide) hw o2 h0 hx9)) fun a vc10 w ρ hf hw hA hΦ => ?_
  obtain ⟨hV, hN, hVc, rfl⟩ := hΦ
  replace o1 := o1.adv hA (by decide)
  replace o3 := o3.adv hA (by decide)
  replace o2 := hV hVc
  refine s_ hf (r_add hf rfl rfl) fun a hf => ?_
  obtain ⟨x11, hx12, hF⟩ := of_bind hF
  refine st_mfn hf rfl rfl (by decide) (r_fn en104 hf rfl) (src_gr 6 (by decide) (by decide) hw o2 (spec_l04Draw_ok (by decide) hw o2 h0 hx12)) fun a vc13 w ρ hf hw hA hΦ => ?_
  obtain ⟨hV, hVc, f14, o6⟩ := hΦ
  replace o1 := o1.adv hA (by decide)
  replace o3 := o3.adv hA (by decide)
  replace o2 := hV hVc
  refine s_ hf (r_assign hf rfl) fun a hf => ?_
  refine c_nt <| c_seq <| c_seq <| c_region ?_
  refine s_ hf (r_move hf rfl) fun a hf => ?_
  obtain ⟨x15, hx16, hF⟩ := of_bind hF
  refine st_mfn hf rfl rfl (by decide) (r_fn en61 hf rfl) (src_go 7 (by decide) hw o2 (spec_l01Next_ok (by decide) hw o2 h0 hx16)) fun a vc17 w ρ hf hw hA hΦ => ?_
  obtain ⟨hV, hN, hVc, rfl⟩ := hΦ
  replace o1 := o1.adv hA (by decide)
  replace o3 := o3.adv hA (by decide)
  replace o6 := o6.adv hA (by decide) (fun _ => by unfold lab; omega)
  replace o2 := hV hVc
  refine s_ hf (r_eql hf rfl rfl) fun a hf => ?_
  refine c_nt ?_
  rcases of_ite hF with ⟨hb18, hF⟩ | ⟨hb18, hF⟩
  rotate_left
  · refine c_iff hf rfl hb18 <| c_skip <| n_then <| c_seq <| c_seq <| c_region ?_
    refine s_ hf (r_move hf rfl) fun a hf => ?_
    obtain ⟨x45, hx46, hF⟩ := of_bind hF
    refine st_mfn hf rfl rfl (by decide) (r_fn en61 hf rfl) (src_go 22 (by decide) hw o2 (spec_l01Next_ok (by decide) hw o2 h0 hx46)) fun a vc47 w ρ hf hw hA hΦ => ?_
    obtain ⟨hV, hN, hVc, rfl⟩ := hΦ
    replace o1 := o1.adv hA (by decide)
    replace o3 := o3.adv hA (by decide)
    replace o6 := o6.adv hA (by decide) (fun _ => by unfold lab; omega)
    replace o2 := hV hVc
    refine c_nt <| c_block <| c_seq <| c_region ?_
    refine s_ hf (r_eql hf rfl rfl) fun a hf => ?_
    refine s_ hf (r_assign hf rfl) fun a hf => ?_
    refine c_nt ?_
    rcases of_ite hF with ⟨hb48, hF⟩ | ⟨hb48, hF⟩
    · refine c_ift hf rfl hb48 <| c_seq <| c_region ?_
      refine s_ hf (r_move hf rfl) fun a hf => ?_
      refine sx_ hf (r_lit (d := fI64) (xs := ([0, 4, 7] : List Int)) (vs := [vI 0, vI 4, vI 7]) 23 Try.underlying36 el2 (Nat.le_of_ble_eq_true rfl) (Nat.le_of_ble_eq_true rfl) hw hf rfl rfl rfl) fun a v23 w hf hΦ => ?_
      obtain ⟨ρ, hw, hE, o23⟩ := hΦ
      replace o1 := o1.ext hE
      replace o2 := o2.ext hE
      replace o3 := o3.ext hE
      replace o6 := o6.ext hE
      obtain ⟨x49, hx50, hF⟩ := of_bind hF
      refine st_mfn hf rfl rfl (by decide) (r_fn en60 hf rfl) (src_go 24 (by decide) hw o2 (spec_l01Pick_ok (by decide) hw o2 h0 ⟨_, (by decide), o23⟩ hx50)) fun a vc51 w ρ hf hw hA hΦ => ?_
      obtain ⟨hV, hN, hVc, rfl⟩ := hΦ
      replace o1 := o1.adv hA (by decide)
      replace o3 := o3.adv hA (by decide)
      replace o6 := o6.adv hA (by decide) (fun _ => by unfold lab; omega)
      replace o23 := o23.adv hA (by decide)
      replace o2 := hV hVc
      refine s_ hf (r_move hf rfl) fun a hf => ?_
      refine s_ hf (r_assign hf rfl) fun a hf => ?_
      refine s_ hf (r_assign hf rfl) fun a hf => ?_
      refine c_nt <| c_retc ?_
      obtain rfl := Option.some.inj hF
      refine r_block <| r_then <| c_ret hf (res_tt Try.results52 hf rfl rfl) ?_
      exact ⟨_, rfl, hw.below, ⟨_, rfl, o6.ro⟩⟩
    refine c_iff hf rfl hb48 <| c_seq <| c_region ?_
    refine s_ hf (r_eql hf rfl rfl) fun a hf => ?_
    refine s_ hf (r_assign hf rfl) fun a hf => ?_
    refine c_nt ?_
    rcases of_ite hF with ⟨hb52, hF⟩ | ⟨hb52, hF⟩
    · refine c_ift hf rfl hb52 <| c_region ?_
      refine s_ hf (r_move hf rfl) fun a hf => ?_
      obtain ⟨hc53, hF⟩ := of_guard hF
      have o25 : Ro (Kd.slice 2 (kf fI64)) w (cutV vc13 (1 : Int).toNat ((gi (List.range x11.1.length) x11.1).length : Int).toNat 1) (((gi (List.range x11.1.length) x11.1).take ((gi (List.range x11.1.length) x11.1).length : Int).toNat).drop (1 : Int).toNat) := ro_cutV o6.ro hc53.1 hc53.2 (Int.le_refl _)
      refine s_ hf (r_cut_v (lo := (1 : Int)) (hi := ((gi (List.range x11.1.length) x11.1).length : Int)) Try.underlying24 sz36 rfl o6.ro hf rfl (.inr ⟨_, rfl, rfl⟩) (.inl ⟨rfl, rfl⟩) hc53.1 hc53.2 (Int.le_refl _)) fun a hf => ?_
      refine s_ hf (r_assign hf rfl) fun a hf => ?_
      refine c_nil <| n_block <| n_then <| c_seq <| c_region ?_
      refine s_ hf (r_move hf rfl) fun a hf => ?_
      refine s_ hf (r_move hf rfl) fun a hf => ?_
      refine s_ hf (r_assign hf rfl) fun a hf => ?_
      refine s_ hf (r_assign hf rfl) fun a hf => ?_
      refine c_nt <| c_retc ?_
      obtain rfl := Option.some.inj hF
      refine c_ret hf (res_tt Try.results52 hf rfl rfl) ?_
      exact ⟨_, rfl, hw.below, ⟨_, rfl, o25⟩⟩
    refine c_iff hf rfl hb52 <| c_seq <| c_region ?_
    refine s_ hf (r_eql hf rfl rfl) fun a hf => ?_
    refine s_ hf (r_assign hf rfl) fun a hf => ?_
    refine c_nt ?_
    rcases of_ite hF with ⟨hb54, hF⟩ | ⟨hb54, hF⟩
    rotate_left
    · refine c_iff hf rfl hb54 <| c_skip <| n_block <| n_then <| c_seq <| c_region ?_
      refine s_ hf (r_move hf rfl) fun a hf => ?_
      refine s_ hf (r_move hf rfl) fun a hf => ?_
      refine s_ hf (r_assign hf rfl) fun a hf => ?_
      refine s_ hf (r_assign hf rfl) fun a hf => ?_
      refine c_nt <| c_retc ?_
      obtain rfl := Option.some.inj hF
      refine c_ret hf (res_tt Try.results52 hf rfl rfl) ?_
      exact ⟨_, rfl, hw.below, ⟨_, rfl, o6.ro⟩⟩
    refine c_ift hf rfl hb54 <| c_seq <| c_region ?_
    refine s_ hf (r_move hf rfl) fun a hf => ?_
    obtain ⟨hc55, hF⟩ := of_guard hF
    obtain ⟨ad56, hl56⟩ := Ow.ce (d := fRef f14) o6.out 0 hc55.1 hc55.2
    have hn56 := o6.lt_gl hc55.1 hc55.2
    refine s_ hf (r_idx Try.underlying24 sz36 hf rfl hl56.at_ rfl hc55.1 hc55.2) fun a hf => ?_
    refine s_ hf (r_load_cell ty36 hf rfl hl56.co.cl) fun a hf => ?_
    refine s_ hf (r_assign hf rfl) fun a hf => ?_
    refine c_nt <| c_region ?_
    refine s_ hf (r_move hf rfl) fun a hf => ?_
    refine s_ hf (r_move hf rfl) fun a hf => ?_
    obtain ⟨hc57, hF⟩ := of_guard hF
    obtain ⟨ad58, hl58⟩ := Ow.ce (d := fI64) (o6.rowAt hn56) 0 hc57.1 hc57.2
    refine s_ hf (r_idx Try.underlying36 sz2 hf rfl hl58.at_ rfl hc57.1 hc57.2) fun a hf => ?_
    refine sk_ hf (r_gcell (p := (0 : Int)) (b := x5.1) 0 hw o6 hc57.1 hc57.2 (Lens.id _) hl58.at_ ty2 (by first | rfl | exact Nat.add_assoc _ _ _ | (simp only [Nat.add_assoc]; rfl)) hf rfl rfl rfl) fun a w hf hΦ => ?_
    obtain ⟨hw, hA, o6⟩ := hΦ
    replace o1 := o1.adv hA (by unfold lab; omega)
    replace o2 := o2.adv hA (by unfold lab; omega)
    replace o3 := o3.adv hA (by unfold lab; omega)
    replace hl56 := hl56.adv hA (by unfold lab; omega)
    replace hn56 : (gl 0 (List.range x11.1.length) (0 : Int)) < (x11.1.set (gl 0 (List.range x11.1.length) (0 : Int)) ((x11.1.getD (gl 0 (List.range x11.1.length) (0 : Int)) []).set (0 : Int).toNat x5.1)).length := Nat.lt_of_lt_of_le hn56 (by simp only [List.length_append, List.length_set] <;> omega)
    refine c_nil <| n_block <| n_then <| c_seq <| c_region ?_
    refine s_ hf (r_move hf rfl) fun a hf => ?_
    refine s_ hf (r_move hf rfl) fun a hf => ?_
    refine s_ hf (r_assign hf rfl) fun a hf => ?_
    refine s_ hf (r_assign hf rfl) fun a hf => ?_
    refine c_nt <| c_retc ?_
    obtain rfl := Option.some.inj hF
    refine c_ret hf (res_tt Try.results52 hf rfl rfl) ?_
    exact ⟨_, rfl, hw.below, ⟨_, rfl, o6.ro⟩⟩
  refine c_ift hf rfl hb18 <| c_seq <| c_region ?_
  refine sx_ hf (r_lit_none (d := (Kd.slice 2 (kf fI64))) 8 Try.underlying24 el36 hw) fun a v8 w hf hΦ => ?_
  obtain ⟨ρ, hw, hE, o8⟩ := hΦ
  replace o1 := o1.ext hE
  replace o2 := o2.ext hE
  replace o3 := o3.ext hE
  replace o6 := o6.ext hE
  replace o8 : Gd fI64 2 36 ρ w w0.heap.size 8 v8 (fun _ => (⟨.bool false, rfl⟩ : V1)) ([] : List Nat) ([] : List (List Int)) := Gd.empty o8 rfl (by decide) _
  refine s_ hf (r_move hf rfl) fun a hf => ?_
  obtain ⟨hc19, hF⟩ := of_guard hF
  refine sx_ hf (r_append (d := fRef f14) Try.underlying24 el36 hw (by decide) (Ow.recode (f' := f14) (idx' := []) o8.out rfl) o6.out.ro hc19 hf rfl rfl) fun a va20 w hf hΦ => ?_
  obtain ⟨ρ, hw, hA, o8⟩ := hΦ
  replace o1 := o1.adv hA (by decide)
  replace o2 := o2.adv hA (by decide)
  replace o3 := o3.adv hA (by decide)
  replace o6 := o6.adv hA (by decide) (fun _ => by unfold lab; omega)
  replace o1 := o1.tr (Tr.relab (j := 8) (b := 6) (by decide))
  replace o2 := o2.tr (Tr.relab (j := 8) (b := 6) (by decide))
  replace o3 := o3.tr (Tr.relab (j := 8) (b := 6) (by decide))
  replace o6 := Gd.move o6 o8 (by decide) (by decide) (List.nil_append _)
  replace hw := hw.relab (j := 8) (by decide) 6
  refine s_ hf (r_assign hf rfl) fun a hf => ?_
  refine c_nt <| c_region ?_
  refine s_ hf (r_move hf rfl) fun a hf => ?_
  refine s_ hf (r_move hf rfl) fun a hf => ?_
  refine s_ hf (r_move hf rfl) fun a hf => ?_
  refine s_ hf (r_len Try.underlying24 o6.out.ro hf rfl) fun a hf => ?_
  refine s_ hf (r_sub hf rfl rfl) fun a hf => ?_
  obtain ⟨hc21, hF⟩ := of_guard hF
  obtain ⟨ad22, hl22⟩ := Ow.ce (d := fRef f14) o6.out 0 hc21.1 hc21.2
  have hn22 := o6.lt_gl hc21.1 hc21.2
  refine s_ hf (r_idx Try.underlying24 sz36 hf rfl hl22.at_ rfl hc21.1 hc21.2) fun a hf => ?_
  refine s_ hf (r_load_cell ty36 hf rfl hl22.co.cl) fun a hf => ?_
  obtain ⟨x23, hx24, hF⟩ := of_bind hF
  refine st_fn 11 hw hf rfl rfl (by decide) (r_fn en105 hf rfl) (spec_l01Own_ok ((o6.rowAt hn22).ro) hx24) fun a v w ρ hf hw hE hN hΦ => ?_
  obtain ⟨u25, rfl, hr26⟩ := hΦ
  replace o1 := o1.ext hE
  replace o2 := o2.ext hE
  replace o3 := o3.ext hE
  replace o6 := o6.ext hE
  replace hl22 := hl22.ext hE
  have o11 := hN hr26
  obtain ⟨hc27, hF⟩ := of_guard hF
  obtain ⟨ad28, hl28⟩ := Ow.ce (d := fRef f14) o6.out 0 hc27.1 hc27.2
  have hn28 := o6.lt_gl hc27.1 hc27.2
  refine s_ hf (r_idx Try.underlying24 sz36 hf rfl hl28.at_ rfl hc27.1 hc27.2) fun a hf => ?_
  refine sk_ hf (r_gput (p := (0 : Int)) hw (by decide) (by decide) (fun _ => by unfold lab; omega) o6 o11 hc27.1 hc27.2 hl28.at_ ty36 rfl hf rfl rfl) fun a w hf hΦ => ?_
  obtain ⟨f29, ρ, hw, hT, o6, hff29, hnu29⟩ := hΦ
  replace o1 := o1.tr (hT 1 (by decide) (by decide))
  replace o2 := o2.tr (hT 2 (by decide) (by decide))
  replace o3 := o3.tr (hT 3 (by decide) (by decide))
  rw [hff29 _ hn22] at hf
  rw [hnu29] at hf
  replace hn22 : (gl 0 (List.range x11.1.length) (w64 (((List.range x11.1.length).length : Int) - 1))) < (x11.1 ++ [x23]).length := Nat.lt_of_lt_of_le hn22 (by simp only [List.length_append, List.length_set] <;> omega)
  replace hn28 : (gl 0 (List.range x11.1.length) (0 : Int)) < (x11.1 ++ [x23]).length := Nat.lt_of_lt_of_le hn28 (by simp only [List.length_append, List.length_set] <;> omega)
  have hn30 : x11.1.length < (x11.1 ++ [x23]).length := by simp
  refine c_nt <| c_seq <| c_seq <| c_region ?_
  refine s_ hf (r_move hf rfl) fun a hf => ?_
  obtain ⟨x31, hx32, hF⟩ := of_bind hF
  refine st_mfn hf rfl rfl (by decide) (r_fn en61 hf rfl) (src_go 15 (by decide) hw o2 (spec_l01Next_ok (by decide) hw o2 h0 hx32)) fun a vc33 w ρ hf hw hA hΦ => ?_
  obtain ⟨hV, hN, hVc, rfl⟩ := hΦ
  replace o1 := o1.adv hA (by decide)
  replace o3 := o3.adv hA (by decide)
  replace o6 := o6.adv hA (by decide) (fun _ => by unfold lab; omega)
  replace o2 := hV hVc
  refine c_nt <| c_block <| c_seq <| c_region ?_
  refine s_ hf (r_eql hf rfl rfl) fun a hf => ?_
  refine s_ hf (r_assign hf rfl) fun a hf => ?_
  refine c_nt ?_
  rcases of_ite hF with ⟨hb34, hF⟩ | ⟨hb34, hF⟩
  · refine c_ift hf rfl hb34 <| c_seq <| c_region ?_
    refine s_ hf (r_move hf rfl) fun a hf => ?_
    refine sx_ hf (r_lit (d := fI64) (xs := ([0, 4, 7] : List Int)) (vs := [vI 0, vI 4, vI 7]) 16 Try.underlying36 el2 (Nat.le_of_ble_eq_true rfl) (Nat.le_of_ble_eq_true rfl) hw hf rfl rfl rfl) fun a v16 w hf hΦ => ?_
    obtain ⟨ρ, hw, hE, o16⟩ := hΦ
    replace o1 := o1.ext hE
    replace o2 := o2.ext hE
    replace o3 := o3.ext hE
    replace o6 := o6.ext hE
    obtain ⟨x35, hx36, hF⟩ := of_bind hF
    refine st_mfn hf rfl rfl (by decide) (r_fn en60 hf rfl) (src_go 17 (by decide) hw o2 (spec_l01Pick_ok (by decide) hw o2 h0 ⟨_, (by decide), o16⟩ hx36)) fun a vc37 w ρ hf hw hA hΦ => ?_
    obtain ⟨hV, hN, hVc, rfl⟩ := hΦ
    replace o1 := o1.adv hA (by decide)
    replace o3 := o3.adv hA (by decide)
    replace o6 := o6.adv hA (by decide) (fun _ => by unfold lab; omega)
    replace o16 := o16.adv hA (by decide)
    replace o2 := hV hVc
    refine s_ hf (r_move hf rfl) fun a hf => ?_
    refine s_ hf (r_assign hf rfl) fun a hf => ?_
    refine s_ hf (r_assign hf rfl) fun a hf => ?_
    refine c_nt <| c_retc ?_
    obtain rfl := Option.some.inj hF
    refine r_block <| r_then <| c_ret hf (res_tt Try.results52 hf rfl rfl) ?_
    exact ⟨_, rfl, hw.below, ⟨_, rfl, o6.ro⟩⟩
  refine c_iff hf rfl hb34 <| c_seq <| c_region ?_
  refine s_ hf (r_eql hf rfl rfl) fun a hf => ?_
  refine s_ hf (r_assign hf rfl) fun a hf => ?_
  refine c_nt ?_
  rcases of_ite hF with ⟨hb38, hF⟩ | ⟨hb38, hF⟩
  · refine c_ift hf rfl hb38 <| c_region ?_
    refine s_ hf (r_move hf rfl) fun a hf => ?_
    obtain ⟨hc39, hF⟩ := of_guard hF
    have o18 : Ro (Kd.slice 2 (kf fI64)) w (cutV va20 (1 : Int).toNat ((gi ((List.range x11.1.length).set (0 : Int).toNat x11.1.length) (x11.1 ++ [x23])).length : Int).toNat 1) (((gi ((List.range x11.1.length).set (0 : Int).toNat x11.1.length) (x11.1 ++ [x23])).take ((gi ((List.range x11.1.length).set (0 : Int).toNat x11.1.length) (x11.1 ++ [x23])).length : Int).toNat).drop (1 : Int).toNat) := ro_cutV o6.ro hc39.1 hc39.2 (Int.le_refl _)
    refine s_ hf (r_cut_v (lo := (1 : Int)) (hi := ((gi ((List.range x11.1.length).set (0 : Int).toNat x11.1.length) (x11.1 ++ [x23])).length : Int)) Try.underlying24 sz36 rfl o6.ro hf rfl (.inr ⟨_, rfl, rfl⟩) (.inl ⟨rfl, rfl⟩) hc39.1 hc39.2 (Int.le_refl _)) fun a hf => ?_
    refine s_ hf (r_assign hf rfl) fun a hf => ?_
    refine c_nil <| n_block <| n_then <| c_seq <| c_region ?_
    refine s_ hf (r_move hf rfl) fun a hf => ?_
    refine s_ hf (r_move hf rfl) fun a hf => ?_
    refine s_ hf (r_assign hf rfl) fun a hf => ?_
    refine s_ hf (r_assign hf rfl) fun a hf => ?_
    refine c_nt <| c_retc ?_
    obtain rfl := Option.some.inj hF
    refine c_ret hf (res_tt Try.results52 hf rfl rfl) ?_
    exact ⟨_, rfl, hw.below, ⟨_, rfl, o18⟩⟩
  refine c_iff hf rfl hb38 <| c_seq <| c_region ?_
  refine s_ hf (r_eql hf rfl rfl) fun a hf => ?_
  refine s_ hf (r_assign hf rfl) fun a hf => ?_
  refine c_nt ?_
  rcases of_ite hF with ⟨hb40, hF⟩ | ⟨hb40, hF⟩
  rotate_left
  · refine c_iff hf rfl hb40 <| c_skip <| n_block <| n_then <| c_seq <| c_region ?_
    refine s_ hf (r_move hf rfl) fun a hf => ?_
    refine s_ hf (r_move hf rfl) fun a hf => ?_
    refine s_ hf (r_assign hf rfl) fun a hf => ?_
    refine s_ hf (r_assign hf rfl) fun a hf => ?_
    refine c_nt <| c_retc ?_
    obtain rfl := Option.some.inj hF
    refine c_ret hf (res_tt Try.results52 hf rfl rfl) ?_
    exact ⟨_, rfl, hw.below, ⟨_, rfl, o6.ro⟩⟩
  refine c_ift hf rfl hb40 <| c_seq <| c_region ?_
  refine s_ hf (r_move hf rfl) fun a hf => ?_
  obtain ⟨hc41, hF⟩ := of_guard hF
  obtain ⟨ad42, hl42⟩ := Ow.ce (d := fRef f29) o6.out 0 hc41.1 hc41.2
  have hn42 := o6.lt_gl hc41.1 hc41.2
  refine s_ hf (r_idx Try.underlying24 sz36 hf rfl hl42.at_ rfl hc41.1 hc41.2) fun a hf => ?_
  refine s_ hf (r_load_cell ty36 hf rfl hl42.co.cl) fun a hf => ?_
  refine s_ hf (r_assign hf rfl) fun a hf => ?_
  refine c_nt <| c_region ?_
  refine s_ hf (r_move hf rfl) fun a hf => ?_
  refine s_ hf (r_move hf rfl) fun a hf => ?_
  obtain ⟨hc43, hF⟩ := of_guard hF
  obtain ⟨ad44, hl44⟩ := Ow.ce (d := fI64) (o6.rowAt hn42) 0 hc43.1 hc43.2
  refine s_ hf (r_idx Try.underlying36 sz2 hf rfl hl44.at_ rfl hc43.1 hc43.2) fun a hf => ?_
  refine sk_ hf (r_gcell (p := (0 : Int)) (b := x5.1) 0 hw o6 hc43.1 hc43.2 (Lens.id _) hl44.at_ ty2 (by first | rfl | exact Nat.add_assoc _ _ _ | (simp only [Nat.add_assoc]; rfl)) hf rfl rfl rfl) fun a w hf hΦ => ?_
  obtain ⟨hw, hA, o6⟩ := hΦ
  replace o1 := o1.adv hA (by unfold lab; omega)
  replace o2 := o2.adv hA (by unfold lab; omega)
  replace o3 := o3.adv hA (by unfold lab; omega)
  replace hl42 := hl42.adv hA (by unfold lab; omega)
  replace hn22 : (gl 0 (List.range x11.1.length) (w64 (((List.range x11.1.length).length : Int) - 1))) < ((x11.1 ++ [x23]).set (gl 0 ((List.range x11.1.length).set (0 : Int).toNat x11.1.length) (0 : Int)) (((x11.1 ++ [x23]).getD (gl 0 ((List.range x11.1.length).set (0 : Int).toNat x11.1.length) (0 : Int)) []).set (0 : Int).toNat x5.1)).length := Nat.lt_of_lt_of_le hn22 (by simp only [List.length_append, List.length_set] <;> omega)
  replace hn28 : (gl 0 (List.range x11.1.length) (0 : Int)) < ((x11.1 ++ [x23]).set (gl 0 ((List.range x11.1.length).set (0 : Int).toNat x11.1.length) (0 : Int)) (((x11.1 ++ [x23]).getD (gl 0 ((List.range x11.1.length).set (0 : Int).toNat x11.1.length) (0 : Int)) []).set (0 : Int).toNat x5.1)).length := Nat.lt_of_lt_of_le hn28 (by simp only [List.length_append, List.length_set] <;> omega)
  replace hn30 : x11.1.length < ((x11.1 ++ [x23]).set (gl 0 ((List.range x11.1.length).set (0 : Int).toNat x11.1.length) (0 : Int)) (((x11.1 ++ [x23]).getD (gl 0 ((List.range x11.1.length).set (0 : Int).toNat x11.1.length) (0 : Int)) []).set (0 : Int).toNat x5.1)).length := Nat.lt_of_lt_of_le hn30 (by simp only [List.length_append, List.length_set] <;> omega)
  replace hn42 : (gl 0 ((List.range x11.1.length).set (0 : Int).toNat x11.1.length) (0 : Int)) < ((x11.1 ++ [x23]).set (gl 0 ((List.range x11.1.length).set (0 : Int).toNat x11.1.length) (0 : Int)) (((x11.1 ++ [x23]).getD (gl 0 ((List.range x11.1.length).set (0 : Int).toNat x11.1.length) (0 : Int)) []).set (0 : Int).toNat x5.1)).length := Nat.lt_of_lt_of_le hn42 (by simp only [List.length_append, List.length_set] <;> omega)
  refine c_nil <| n_block <| n_then <| c_seq <| c_region ?_
  refine s_ hf (r_move hf rfl) fun a hf => ?_
  refine s_ hf (r_move hf rfl) fun a hf => ?_
  refine s_ hf (r_assign hf rfl) fun a hf => ?_
  refine s_ hf (r_assign hf rfl) fun a hf => ?_
  refine c_nt <| c_retc ?_
  obtain rfl := Option.some.inj hF
  refine c_ret hf (res_tt Try.results52 hf rfl rfl) ?_
  exact ⟨_, rfl, hw.below, ⟨_, rfl, o6.ro⟩⟩
/-! f10 -/
noncomputable def spec_DrawInverseSquare (a0 : List UInt8) : Option (Int × List (List Int)) :=
  (spec_l04Of a0).bind fun x1 => some ((x1.1, x1.2))
theorem spec_DrawInverseSquare_ok {w0 : World} {a0 : List UInt8} {va0 : Value} (h0 : Ro (kf fU8) w0 va0 a0) {r : Int × List (List Int)} (hF : spec_DrawInverseSquare a0 = some r) :
    Calls Try.prog 10 [va0].toArray w0 fun e w => ∃ v, e = .returned v ∧ Below w0.heap.size w0 w ∧ ∃ u1, .tuple #[.int .i64 r.1, u1] = v ∧ Ro (Kd.slice 2 (kf fI64)) w u1 r.2 := by
  refine calls_of (k := 8) Try.func10 rfl rfl (Nat.le_of_ble_eq_true rfl) fun a hf => ?_
  replace hf : Fr 8 a [(0, va0)] := hf
  refine c_start fun w ρ hw => ?_
  unfold spec_DrawInverseSquare at hF
  refine c_seq <| c_region ?_
  refine s_ hf (r_assign hf rfl) fun a hf => ?_
  have o1 : Ow (Kd.slice 2 (kf fI64)) 36 ρ w w0.heap.size 1 (.slice none 0 0) [] := Ow.nil _ _ _ _ _ _
  refine s_ hf (r_assign hf rfl) fun a hf => ?_
  refine c_nt <| c_seq <| c_region ?_
  refine s_ hf (r_move hf rfl) fun a hf => ?_
  obtain ⟨x1, hx2, hF⟩ := of_bind hF
  refine st_fn 2 hw hf rfl rfl (by decide) (r_fn en52 hf rfl) (spec_l04Of_ok (h0.now hw) hx2) fun a v w ρ hf hw hE hN hΦ => ?_
  obtain ⟨u3, rfl, hr4⟩ := hΦ
  replace o1 := o1.ext hE
  have o2 := hr4
  refine s_ hf (r_extract hf rfl rfl) fun a hf => ?_
  refine s_ hf (r_extract hf rfl rfl) fun a hf => ?_
  refine s_ hf (r_assign hf rfl) fun a hf => ?_
  refine s_ hf (r_assign hf rfl) fun a hf => ?_
  refine c_nt <| c_retc ?_
  obtain rfl := Option.some.inj hF
  refine c_ret hf (res_tt Try.results10 hf rfl rfl) ?_
  exact ⟨_, rfl, hw.below, ⟨_, rfl, o2⟩⟩
/-! f16 -/
noncomputable def spec_DrawCountInvertible (a0 : List UInt8) : Option (Int × Int) :=
  (spec_l01From a0).bind fun x1 => (spec_l01Pick a0 x1 ([2, 3, 5, 4])).bind fun x5 => (spec_l01Next a0 x5.2 5).bind fun x8 => some ((x5.1, x8.1))
theorem spec_DrawCountInvertible_ok {w0 : World} {a0 : List UInt8} {va0 : Value} (h0 : Ro (kf fU8) w0 va0 a0) {r : Int × Int} (hF : spec_DrawCountInvertible a0 = some r) :
    Calls Try.prog 16 [va0].toArray w0 fun e w => ∃ v, e = .returned v ∧ Below w0.heap.size w0 w ∧ .tuple #[.int .i64 r.1, .int .i64 r.2] = v := by
  refine calls_of (k := 12) Try.func16 rfl rfl (Nat.le_of_ble_eq_true rfl) fun a hf => ?_
  replace hf : Fr 12 a [(0, va0)] := hf
  refine c_start fun w ρ hw => ?_
  unfold spec_DrawCountInvertible at hF
  refine c_seq <| c_region ?_
  refine s_ hf (r_assign hf rfl) fun a hf => ?_
  refine s_ hf (r_assign hf rfl) fun a hf => ?_
  refine c_nt <| c_seq <| c_region ?_
  refine s_ hf (r_move hf rfl) fun a hf => ?_
  obtain ⟨x1, hx2, hF⟩ := of_bind hF
  refine st_fnp 1 hw hf rfl rfl (by decide) (r_fn en59 hf rfl) (spec_l01From_ok (h0.now hw) hx2) fun a v w ρ hf hw hE hN hΦ => ?_
  obtain ⟨u3, rfl, hr4⟩ := hΦ
  have o1 := hN hr4
  refine s_ hf (r_assign hf rfl) fun a hf => ?_
  refine c_nt <| c_seq <| c_region ?_
  refine s_ hf (r_move hf rfl) fun a hf => ?_
  refine sx_ hf (r_lit (d := fI64) (xs := ([2, 3, 5, 4] : List Int)) (vs := [vI 2, vI 3, vI 5, vI 4]) 2 Try.underlying36 el2 (Nat.le_of_ble_eq_true rfl) (Nat.le_of_ble_eq_true rfl) hw hf rfl rfl rfl) fun a v2 w hf hΦ => ?_
  obtain ⟨ρ, hw, hE, o2⟩ := hΦ
  replace o1 := o1.ext hE
  obtain ⟨x5, hx6, hF⟩ := of_bind hF
  refine st_mfn hf rfl rfl (by decide) (r_fn en60 hf rfl) (src_go 3 (by decide) hw o1 (spec_l01Pick_ok (by decide) hw o1 h0 ⟨_, (by decide), o2⟩ hx6)) fun a vc7 w ρ hf hw hA hΦ => ?_
  obtain ⟨hV, hN, hVc, rfl⟩ := hΦ
  replace o2 := o2.adv hA (by decide)
  replace o1 := hV hVc
  refine s_ hf (r_move hf rfl) fun a hf => ?_
  obtain ⟨x8, hx9, hF⟩ := of_bind hF
  refine st_mfn hf rfl rfl (by decide) (r_fn en61 hf rfl) (src_go 4 (by decide) hw o1 (spec_l01Next_ok (by decide) hw o1 h0 hx9)) fun a vc10 w ρ hf hw hA hΦ => ?_
  obtain ⟨hV, hN, hVc, rfl⟩ := hΦ
  replace o2 := o2.adv hA (by decide)
  replace o1 := hV hVc
  refine s_ hf (r_assign hf rfl) fun a hf => ?_
  refine s_ hf (r_assign hf rfl) fun a hf => ?_
  refine c_nt <| c_retc ?_
  obtain rfl := Option.some.inj hF
  refine c_ret hf (res_tt Try.results16 hf rfl rfl) ?_
  exact ⟨_, rfl, hw.below, rfl⟩
/-! f11 -/
noncomputable def impl_InverseSquare (a0 : Int) (a1 : List (List Int)) : Option (List (List Int) × Int) :=
  (impl_isSquare a0 a1).bind fun x1 => if (!x1) = true then (some ((([] : List (List Int)), 2))) else ((impl_isInvertible a0 a1).bind fun x4 => if (!x4) = true then (some ((([] : List (List Int)), 5))) else ((impl_inverted a0 a1).bind fun x7 => some ((x7, 0))))
theorem impl_InverseSquare_ok {w0 : World} {a0 : Int} {a1 : List (List Int)} {va1 : Value} (h1 : Ro (Kd.slice 2 (kf fI64)) w0 va1 a1) {r : List (List Int) × Int} (hF : impl_InverseSquare a0 a1 = some r) :
    Calls Try.prog 11 [vI a0, va1].toArray w0 fun e w => ∃ v, e = .returned v ∧ Below w0.heap.size w0 w ∧ ∃ u0, .tuple #[u0, .int .i64 r.2] = v ∧ Fresh (Kd.slice 2 (kf fI64)) 36 w0 w u0 r.1 := by
  refine calls_of (k := 19) Try.func11 rfl rfl (Nat.le_of_ble_eq_true rfl) fun a hf => ?_
  replace hf : Fr 19 a [(0, vI a0), (1, va1)] := hf
  refine c_start fun w ρ hw => ?_
  unfold impl_InverseSquare at hF
  refine c_seq <| c_region ?_
  have o1 : Ow (Kd.slice 2 (kf fI64)) 36 ρ w w0.heap.size 1 (.slice none 0 0) [] := Ow.nil _ _ _ _ _ _
  refine s_ hf (r_assign hf rfl) fun a hf => ?_
  refine s_ hf (r_assign hf rfl) fun a hf => ?_
  refine c_nt <| c_seq <| c_block <| c_seq <| c_region ?_
  refine s_ hf (r_move hf rfl) fun a hf => ?_
  refine s_ hf (r_move hf rfl) fun a hf => ?_
  obtain ⟨x1, hx2, hF⟩ := of_bind hF
  refine st_fn 2 hw hf rfl rfl (by decide) (r_fn en53 hf rfl) (impl_isSquare_ok (h1.now hw) hx2) fun a v w ρ hf hw hE hN hΦ => ?_
  obtain rfl := hΦ
  replace o1 := o1.ext hE
  refine s_ hf (r_not hf rfl) fun a hf => ?_
  refine s_ hf (r_assign hf rfl) fun a hf => ?_
  refine c_nt ?_
  rcases of_ite hF with ⟨hb3, hF⟩ | ⟨hb3, hF⟩
  · refine c_ift hf rfl hb3 <| c_seq <| c_region ?_
    have o3 : Ow (Kd.slice 2 (kf fI64)) 36 ρ w w0.heap.size 3 (.slice none 0 0) [] := Ow.nil _ _ _ _ _ _
    refine s_ hf (r_assign hf rfl) fun a hf => ?_
    refine s_ hf (r_assign hf rfl) fun a hf => ?_
    refine c_nt <| c_retc ?_
    obtain rfl := Option.some.inj hF
    refine r_block <| r_then <| c_ret hf (res_tt Try.results11 hf rfl rfl) ?_
    exact ⟨_, rfl, hw.below, ⟨_, rfl, o3.out⟩⟩
  refine c_iff hf rfl hb3 <| c_seq <| c_region ?_
  refine s_ hf (r_move hf rfl) fun a hf => ?_
  refine s_ hf (r_move hf rfl) fun a hf => ?_
  obtain ⟨x4, hx5, hF⟩ := of_bind hF
  refine st_fn 4 hw hf rfl rfl (by decide) (r_fn en54 hf rfl) (impl_isInvertible_ok (h1.now hw) hx5) fun a v w ρ hf hw hE hN hΦ => ?_
  obtain rfl := hΦ
  replace o1 := o1.ext hE
  refine s_ hf (r_not hf rfl) fun a hf => ?_
  refine s_ hf (r_assign hf rfl) fun a hf => ?_
  refine c_nt ?_
  rcases of_ite hF with ⟨hb6, hF⟩ | ⟨hb6, hF⟩
  · refine c_ift hf rfl hb6 <| c_seq <| c_region ?_
    have o5 : Ow (Kd.slice 2 (kf fI64)) 36 ρ w w0.heap.size 5 (.slice none 0 0) [] := Ow.nil _ _ _ _ _ _
    refine s_ hf (r_assign hf rfl) fun a hf => ?_
    refine s_ hf (r_assign hf rfl) fun a hf => ?_
    refine c_nt <| c_retc ?_
    obtain rfl := Option.some.inj hF
    refine r_block <| r_then <| c_ret hf (res_tt Try.results11 hf rfl rfl) ?_
    exact ⟨_, rfl, hw.below, ⟨_, rfl, o5.out⟩⟩
  refine c_iff hf rfl hb6 <| c_skip <| n_block <| n_then <| c_seq <| c_region ?_
  refine s_ hf (r_move hf rfl) fun a hf => ?_
  refine s_ hf (r_move hf rfl) fun a hf => ?_
  obtain ⟨x7, hx8, hF⟩ := of_bind hF
  refine st_fn 6 hw hf rfl rfl (by decide) (r_fn en55 hf rfl) (impl_inverted_ok (h1.now hw) hx8) fun a v w ρ hf hw hE hN hΦ => ?_
  obtain ⟨u9, rfl, hr10⟩ := hΦ
  replace o1 := o1.ext hE
  have o6 := hN hr10
  refine s_ hf (r_assign hf rfl) fun a hf => ?_
  refine s_ hf (r_assign hf rfl) fun a hf => ?_
  refine c_nt <| c_retc ?_
  obtain rfl := Option.some.inj hF
  refine c_ret hf (res_tt Try.results11 hf rfl rfl) ?_
  exact ⟨_, rfl, hw.below, ⟨_, rfl, o6.out⟩⟩
/-! f12 -/
noncomputable def spec_InverseSquare (a0 : Int) (a1 : List (List Int)) : Option (List (List Int) × Int) :=
  (spec_l04Square a0 a1).bind fun x1 => if (!x1) = true then (some ((([] : List (List Int)), 2))) else ((spec_l04Inverse a0 a1).bind fun x4 => if (!x4.2) = true then (some ((([] : List (List Int)), 5))) else (some ((x4.1, 0))))
theorem spec_InverseSquare_ok {w0 : World} {a0 : Int} {a1 : List (List Int)} {va1 : Value} (h1 : Ro (Kd.slice 2 (kf fI64)) w0 va1 a1) {r : List (List Int) × Int} (hF : spec_InverseSquare a0 a1 = some r) :
    Calls Try.prog 12 [vI a0, va1].toArray w0 fun e w => ∃ v, e = .returned v ∧ Below w0.heap.size w0 w ∧ ∃ u0, .tuple #[u0, .int .i64 r.2] = v ∧ Fresh (Kd.slice 2 (kf fI64)) 36 w0 w u0 r.1 := by
  refine calls_of (k := 21) Try.func12 rfl rfl (Nat.le_of_ble_eq_true rfl) fun a hf => ?_
  replace hf : Fr 21 a [(0, vI a0), (1, va1)] := hf
  refine c_start fun w ρ hw => ?_
  unfold spec_InverseSquare at hF
  refine c_seq <| c_region ?_
  have o1 : Ow (Kd.slice 2 (kf fI64)) 36 ρ w w0.heap.size 1 (.slice none 0 0) [] := Ow.nil _ _ _ _ _ _
  refine s_ hf (r_assign hf rfl) fun a hf => ?_
  refine s_ hf (r_assign hf rfl) fun a hf => ?_
  refine c_nt <| c_seq <| c_seq <| c_region ?_
  refine s_ hf (r_move hf rfl) fun a hf => ?_
  refine s_ hf (r_move hf rfl) fun a hf => ?_
  obtain ⟨x1, hx2, hF⟩ := of_bind hF
  refine st_fn 2 hw hf rfl rfl (by decide) (r_fn en56 hf rfl) (spec_l04Square_ok (h1.now hw) hx2) fun a v w ρ hf hw hE hN hΦ => ?_
  obtain rfl := hΦ
  replace o1 := o1.ext hE
  refine s_ hf (r_not hf rfl) fun a hf => ?_
  refine c_nt ?_
  rcases of_ite hF with ⟨hb3, hF⟩ | ⟨hb3, hF⟩
  · refine c_ift hf rfl hb3 <| c_seq <| c_region ?_
    have o3 : Ow (Kd.slice 2 (kf fI64)) 36 ρ w w0.heap.size 3 (.slice none 0 0) [] := Ow.nil _ _ _ _ _ _
    refine s_ hf (r_assign hf rfl) fun a hf => ?_
    refine s_ hf (r_assign hf rfl) fun a hf => ?_
    refine c_nt <| c_retc ?_
    obtain rfl := Option.some.inj hF
    refine r_then <| c_ret hf (res_tt Try.results12 hf rfl rfl) ?_
    exact ⟨_, rfl, hw.below, ⟨_, rfl, o3.out⟩⟩
  refine c_iff hf rfl hb3 <| c_skip <| n_then <| c_seq <| c_region ?_
  refine s_ hf (r_move hf rfl) fun a hf => ?_
  refine s_ hf (r_move hf rfl) fun a hf => ?_
  obtain ⟨x4, hx5, hF⟩ := of_bind hF
  refine st_fn 4 hw hf rfl rfl (by decide) (r_fn en57 hf rfl) (spec_l04Inverse_ok (h1.now hw) hx5) fun a v w ρ hf hw hE hN hΦ => ?_
  obtain ⟨u6, rfl, hr7⟩ := hΦ
  replace o1 := o1.ext hE
  have o4 := hN hr7
  refine s_ hf (r_move hf rfl) fun a hf => ?_
  refine s_ hf (r_extract hf rfl rfl) fun a hf => ?_
  refine s_ hf (r_extract hf rfl rfl) fun a hf => ?_
  refine s_ hf (r_assign hf rfl) fun a hf => ?_
  refine s_ hf (r_assign hf rfl) fun a hf => ?_
  refine c_nt <| c_seq <| c_seq <| c_region ?_
  refine s_ hf (r_move hf rfl) fun a hf => ?_
  refine s_ hf (r_not hf rfl) fun a hf => ?_
  refine c_nt ?_
  rcases of_ite hF with ⟨hb8, hF⟩ | ⟨hb8, hF⟩
  rotate_left
  · refine c_iff hf rfl hb8 <| c_skip <| n_then <| c_seq <| c_region ?_
    refine s_ hf (r_move hf rfl) fun a hf => ?_
    refine s_ hf (r_assign hf rfl) fun a hf => ?_
    refine s_ hf (r_assign hf rfl) fun a hf => ?_
    refine c_nt <| c_retc ?_
    obtain rfl := Option.some.inj hF
    refine c_ret hf (res_tt Try.results12 hf rfl rfl) ?_
    exact ⟨_, rfl, hw.below, ⟨_, rfl, o4.out⟩⟩
  refine c_ift hf rfl hb8 <| c_seq <| c_region ?_
  have o5 : Ow (Kd.slice 2 (kf fI64)) 36 ρ w w0.heap.size 5 (.slice none 0 0) [] := Ow.nil _ _ _ _ _ _
  refine s_ hf (r_assign hf rfl) fun a hf => ?_
  refine s_ hf (r_assign hf rfl) fun a hf => ?_
  refine c_nt <| c_retc ?_
  obtain rfl := Option.some.inj hF
  refine r_then <| c_ret hf (res_tt Try.results12 hf rfl rfl) ?_
  exact ⟨_, rfl, hw.below, ⟨_, rfl, o5.out⟩⟩
/-! f58 -/
noncomputable def laws_likeInts_l2 (a0 : List Int) (a1 : List Int) (s3 : Int) : Option (LR Int Bool) :=
  if (decide (s3 < (a0.length : Int))) = true then (if 0 ≤ s3 ∧ s3 < (a0.length : Int) then (if 0 ≤ s3 ∧ s3 < (a1.length : Int) then (if (decide ((gl 0 a0 s3) ≠ (gl 0 a1 s3))) = true then (some (.ret false)) else (some (.next (w64 (s3 + 1))))) else none) else none) else (some (.stop s3))
noncomputable def laws_likeInts (a0 : List Int) (a1 : List Int) : Option Bool :=
  if (decide ((a0.length : Int) ≠ (a1.length : Int))) = true then (some (false)) else ((iter (fun s => laws_likeInts_l2 a0 a1 s) 0).bind fun o => match o with | .stop s3 => (some (true)) | .ret r => some r | .next _ => none)
theorem laws_likeInts_ok {w0 : World} {a0 : List Int} {a1 : List Int} {va0 : Value} {va1 : Value} (h0 : Ro (kf fI64) w0 va0 a0) (h1 : Ro (kf fI64) w0 va1 a1) {r : Bool} (hF : laws_likeInts a0 a1 = some r) :
    Calls Try.prog 58 [va0, va1].toArray w0 fun e w => ∃ v, e = .returned v ∧ Below w0.heap.size w0 w ∧ .bool r = v := by
  refine calls_of (k := 26) Try.func58 rfl rfl (Nat.le_of_ble_eq_true rfl) fun a hf => ?_
  replace hf : Fr 26 a [(0, va0), (1, va1)] := hf
  refine c_start fun w ρ hw => ?_
  unfold laws_likeInts at hF
  refine c_seq <| c_region ?_
  refine s_ hf (r_assign hf rfl) fun a hf => ?_
  refine c_nt <| c_seq <| c_seq <| c_region ?_
  refine s_ hf (r_move hf rfl) fun a hf => ?_
  refine s_ hf (r_len Try.underlying36 (h0.now hw) hf rfl) fun a hf => ?_
  refine s_ hf (r_move hf rfl) fun a hf => ?_
  refine s_ hf (r_len Try.underlying36 (h1.now hw) hf rfl) fun a hf => ?_
  refine s_ hf (r_neq hf rfl rfl) fun a hf => ?_
  refine c_nt ?_
  rcases of_ite hF with ⟨hb1, hF⟩ | ⟨hb1, hF⟩
  · refine c_ift hf rfl hb1 <| c_seq <| c_region ?_
    refine s_ hf (r_assign hf rfl) fun a hf => ?_
    refine c_nt <| c_retc ?_
    obtain rfl := Option.some.inj hF
    refine r_then <| c_ret hf (res_tmp Try.results58 hf rfl) ?_
    exact ⟨_, rfl, hw.below, rfl⟩
  refine c_iff hf rfl hb1 <| c_skip <| n_then <| c_seq <| c_seq <| c_region ?_
  refine s_ hf (r_assign hf rfl) fun a hf => ?_
  refine c_nt ?_
  obtain ⟨ol2, ho2, hG2⟩ := of_bind hF
  clear hF
  refine c_block (c_loop (id := 0) (fun s => laws_likeInts_l2 a0 a1 s) (fun (s3 : Int) a w => ∃ ρ, Wd w0 ρ w ∧ Fr 26 a [(0, va0), (1, va1), (5, vI s3)]) (fun (s3 : Int) a w => ∃ ρ, Wd w0 ρ w ∧ Fr 26 a []) ho2 ⟨_, hw, hf.sub ⟨rfl, rfl, rfl, trivial⟩⟩ ?_ ?_)
  · rintro s3 lr a w ⟨ρ, hw, hf⟩ hF
    replace hF : laws_likeInts_l2 a0 a1 s3 = some lr := hF
    unfold laws_likeInts_l2 at hF
    refine c_seq <| c_seq <| c_region ?_
    refine s_ hf (r_move hf rfl) fun a hf => ?_
    refine s_ hf (r_move hf rfl) fun a hf => ?_
    refine s_ hf (r_len Try.underlying36 (h0.now hw) hf rfl) fun a hf => ?_
    refine s_ hf (r_lss hf rfl rfl) fun a hf => ?_
    refine c_nt ?_
    rcases of_ite hF with ⟨hb4, hF⟩ | ⟨hb4, hF⟩
    rotate_left
    · refine c_iff hf rfl hb4 <| c_exit <| x_then ?_
      obtain rfl := Option.some.inj hF
      exact Rnd.stops ⟨_, hw, hf.sub trivial⟩
    refine c_ift hf rfl hb4 <| c_skip <| n_then <| c_seq <| c_block <| c_seq ?_
    obtain ⟨hc5, hF⟩ := of_guard hF
    obtain ⟨ad6, c6, he6, hl6⟩ := Ro.el fI64 h0 0 hc5.1 hc5.2
    obtain ⟨hc7, hF⟩ := of_guard hF
    obtain ⟨ad8, c8, he8, hl8⟩ := Ro.el fI64 h1 0 hc7.1 hc7.2
    replace hf : Fr 26 a [(0, va0), (1, va1), (5, vI s3)] := hf.sub ⟨rfl, rfl, rfl, trivial⟩
    refine c_drawL (h := 8) mixed (by kernel_rfl) (by kernel_rfl) (fun ρ w => True) ?_ [fun ρ w v => va0 = v, fun ρ w v => vI s3 = v, fun ρ w v => .pointer (some (ad6.add (s3.toNat * 1))) = v, fun ρ w v => vI (gl 0 a0 s3) = v, fun ρ w v => va1 = v, fun ρ w v => vI s3 = v, fun ρ w v => .pointer (some (ad8.add (s3.toNat * 1))) = v, fun ρ w v => vI (gl 0 a1 s3) = v] ?_ hw trivial hf ?_ ?_
    · intro ρ w ρ' w' hE hG
      skip
      exact trivial
    · exact LastsL.cons (fun _ _ _ _ _ _ h => h) <| LastsL.cons (fun _ _ _ _ _ _ h => h) <| LastsL.cons (fun _ _ _ _ _ _ h => h) <| LastsL.cons (fun _ _ _ _ _ _ h => h) <| LastsL.cons (fun _ _ _ _ _ _ h => h) <| LastsL.cons (fun _ _ _ _ _ _ h => h) <| LastsL.cons (fun _ _ _ _ _ _ h => h) <| LastsL.cons (fun _ _ _ _ _ _ h => h) <| LastsL.nil
    · refine StepsB.cons ?_ <| StepsB.cons ?_ <| StepsB.cons ?_ <| StepsB.cons ?_ <| StepsB.cons ?_ <| StepsB.cons ?_ <| StepsB.cons ?_ <| StepsB.cons ?_ <| StepsB.nil
      · intro ρ w a hw hG hf hd K hK
        exact dv_ hK hw (wn rfl) (r_move hf rfl) rfl
      · intro ρ w a hw hG hf hd K hK
        exact dv_ hK hw (wn rfl) (r_move hf rfl) rfl
      · intro ρ w a hw hG hf hd K hK
        obtain ⟨_, hf, rfl⟩ := got (hd 0 (by kernel_rfl)) hf
        obtain ⟨_, hf, rfl⟩ := got (hd 1 (by kernel_rfl)) hf
        exact dv_ hK hw (wn rfl) (r_idx Try.underlying36 sz2 hf rfl ⟨_, he6⟩ rfl hc5.1 hc5.2) rfl
      · intro ρ w a hw hG hf hd K hK
        obtain ⟨_, hf, rfl⟩ := got (hd 2 (by kernel_rfl)) hf
        exact dv_ hK hw (wn rfl) (r_load_cell ty2 hf rfl (hl6.below hw.below)) rfl
      · intro ρ w a hw hG hf hd K hK
        exact dv_ hK hw (wn rfl) (r_move hf rfl) rfl
      · intro ρ w a hw hG hf hd K hK
        exact dv_ hK hw (wn rfl) (r_move hf rfl) rfl
      · intro ρ w a hw hG hf hd K hK
        obtain ⟨_, hf, rfl⟩ := got (hd 4 (by kernel_rfl)) hf
        obtain ⟨_, hf, rfl⟩ := got (hd 5 (by kernel_rfl)) hf
        exact dv_ hK hw (wn rfl) (r_idx Try.underlying36 sz2 hf rfl ⟨_, he8⟩ rfl hc7.1 hc7.2) rfl
      · intro ρ w a hw hG hf hd K hK
        obtain ⟨_, hf, rfl⟩ := got (hd 6 (by kernel_rfl)) hf
        exact dv_ hK hw (wn rfl) (r_load_cell ty2 hf rfl (hl8.below hw.below)) rfl
    intro ρ w a hw hG hf hd
    obtain ⟨_, hf, rfl⟩ := got (hd 3 (by decide)) hf
    obtain ⟨_, hf, rfl⟩ := got (hd 7 (by decide)) hf
    refine s_ hf (r_neq hf rfl rfl) fun a hf => ?_
    refine c_nt ?_
    rcases of_ite hF with ⟨hb9, hF⟩ | ⟨hb9, hF⟩
    rotate_left
    · refine c_iff hf rfl hb9 <| c_skip <| n_block <| n_then <| c_region ?_
      refine s_ hf (r_move hf rfl) fun a hf => ?_
      refine s_ hf (r_add hf rfl rfl) fun a hf => ?_
      refine s_ hf (r_assign hf rfl) fun a hf => ?_
      refine c_nil ?_
      obtain rfl := Option.some.inj hF
      exact Rnd.goes ⟨_, hw, hf.sub ⟨rfl, rfl, rfl, trivial⟩⟩
    refine c_ift hf rfl hb9 <| c_seq <| c_region ?_
    refine s_ hf (r_assign hf rfl) fun a hf => ?_
    refine c_nt <| c_retc ?_
    obtain rfl := Option.some.inj hF
    refine r_block <| r_then ?_
    refine Rnd.rets fun ho => ?_
    subst ho
    have hF := hG2
    dsimp only at hF
    obtain rfl := Option.some.inj hF
    refine r_block <| r_then <| c_ret hf (res_tmp Try.results58 hf rfl) ?_
    exact ⟨_, rfl, hw.below, rfl⟩
  rintro s3 a w hs ⟨ρ, hw, hf⟩
  subst hs
  have hF := hG2
  dsimp only at hF
  refine x_block <| n_then <| c_seq <| c_region ?_
  refine s_ hf (r_assign hf rfl) fun a hf => ?_
  refine c_nt <| c_retc ?_
  obtain rfl := Option.some.inj hF
  refine c_ret hf (res_tmp Try.results58 hf rfl) ?_
  exact ⟨_, rfl, hw.below, rfl⟩
/-! f13 -/
noncomputable def laws_lists9_l2 (a0 : List (List Int)) (a1 : List (List Int)) (s3 : Int) : Option (LR Int Bool) :=
  if (decide (s3 < (a0.length : Int))) = true then (if 0 ≤ s3 ∧ s3 < (a0.length : Int) then (if 0 ≤ s3 ∧ s3 < (a1.length : Int) then ((laws_likeInts (gl [] a0 s3) (gl [] a1 s3)).bind fun x9 => if (!x9) = true then (some (.ret false)) else (some (.next (w64 (s3 + 1))))) else none) else none) else (some (.stop s3))
noncomputable def laws_lists9 (a0 : List (List Int)) (a1 : List (List Int)) : Option Bool :=
  if (decide ((a0.length : Int) ≠ (a1.length : Int))) = true then (some (false)) else ((iter (fun s => laws_lists9_l2 a0 a1 s) 0).bind fun o => match o with | .stop s3 => (some (true)) | .ret r => some r | .next _ => none)
theorem laws_lists9_ok {w0 : World} {a0 : List (List Int)} {a1 : List (List Int)} {va0 : Value} {va1 : Value} (h0 : Ro (Kd.slice 2 (kf fI64)) w0 va0 a0) (h1 : Ro (Kd.slice 2 (kf fI64)) w0 va1 a1) {r : Bool} (hF : laws_lists9 a0 a1 = some r) :
    Calls Try.prog 13 [va0, va1].toArray w0 fun e w => ∃ v, e = .returned v ∧ Below w0.heap.size w0 w ∧ .bool r = v := by
  refine calls_of (k := 27) Try.func13 rfl rfl (Nat.le_of_ble_eq_true rfl) fun a hf => ?_
  replace hf : Fr 27 a [(0, va0), (1, va1)] := hf
  refine c_start fun w ρ hw => ?_
  unfold laws_lists9 at hF
  refine c_seq <| c_region ?_
  refine s_ hf (r_assign hf rfl) fun a hf => ?_
  refine c_nt <| c_seq <| c_seq <| c_region ?_
  refine s_ hf (r_move hf rfl) fun a hf => ?_
  refine s_ hf (r_len Try.underlying24 (h0.now hw) hf rfl) fun a hf => ?_
  refine s_ hf (r_move hf rfl) fun a hf => ?_
  refine s_ hf (r_len Try.underlying24 (h1.now hw) hf rfl) fun a hf => ?_
  refine s_ hf (r_neq hf rfl rfl) fun a hf => ?_
  refine c_nt ?_
  rcases of_ite hF with ⟨hb1, hF⟩ | ⟨hb1, hF⟩
  · refine c_ift hf rfl hb1 <| c_seq <| c_region ?_
    refine s_ hf (r_assign hf rfl) fun a hf => ?_
    refine c_nt <| c_retc ?_
    obtain rfl := Option.some.inj hF
    refine r_then <| c_ret hf (res_tmp Try.results13 hf rfl) ?_
    exact ⟨_, rfl, hw.below, rfl⟩
  refine c_iff hf rfl hb1 <| c_skip <| n_then <| c_seq <| c_seq <| c_region ?_
  refine s_ hf (r_assign hf rfl) fun a hf => ?_
  refine c_nt ?_
  obtain ⟨ol2, ho2, hG2⟩ := of_bind hF
  clear hF
  refine c_block (c_loop (id := 0) (fun s => laws_lists9_l2 a0 a1 s) (fun (s3 : Int) a w => ∃ ρ, Wd w0 ρ w ∧ Fr 27 a [(0, va0), (1, va1), (5, vI s3)]) (fun (s3 : Int) a w => ∃ ρ, Wd w0 ρ w ∧ Fr 27 a []) ho2 ⟨_, hw, hf.sub ⟨rfl, rfl, rfl, trivial⟩⟩ ?_ ?_)
  · rintro s3 lr a w ⟨ρ, hw, hf⟩ hF
    replace hF : laws_lists9_l2 a0 a1 s3 = some lr := hF
    unfold laws_lists9_l2 at hF
    refine c_seq <| c_seq <| c_region ?_
    refine s_ hf (r_move hf rfl) fun a hf => ?_
    refine s_ hf (r_move hf rfl) fun a hf => ?_
    refine s_ hf (r_len Try.underlying24 (h0.now hw) hf rfl) fun a hf => ?_
    refine s_ hf (r_lss hf rfl rfl) fun a hf => ?_
    refine c_nt ?_
    rcases of_ite hF with ⟨hb4, hF⟩ | ⟨hb4, hF⟩
    rotate_left
    · refine c_iff hf rfl hb4 <| c_exit <| x_then ?_
      obtain rfl := Option.some.inj hF
      exact Rnd.stops ⟨_, hw, hf.sub trivial⟩
    refine c_ift hf rfl hb4 <| c_skip <| n_then <| c_seq <| c_block <| c_seq ?_
    obtain ⟨hc5, hF⟩ := of_guard hF
    obtain ⟨ad6, c6, u6, he6, hl6, ho6⟩ := Ro.el_row h0 hc5.1 hc5.2
    obtain ⟨hc7, hF⟩ := of_guard hF
    obtain ⟨ad8, c8, u8, he8, hl8, ho8⟩ := Ro.el_row h1 hc7.1 hc7.2
    replace hf : Fr 27 a [(0, va0), (1, va1), (5, vI s3)] := hf.sub ⟨rfl, rfl, rfl, trivial⟩
    refine c_drawL (h := 8) mixed (by kernel_rfl) (by kernel_rfl) (fun ρ w => True) ?_ [fun ρ w v => va0 = v, fun ρ w v => vI s3 = v, fun ρ w v => .pointer (some (ad6.add (s3.toNat * 1))) = v, fun ρ w v => u6 = v, fun ρ w v => va1 = v, fun ρ w v => vI s3 = v, fun ρ w v => .pointer (some (ad8.add (s3.toNat * 1))) = v, fun ρ w v => u8 = v] ?_ hw trivial hf ?_ ?_
    · intro ρ w ρ' w' hE hG
      skip
      exact trivial
    · exact LastsL.cons (fun _ _ _ _ _ _ h => h) <| LastsL.cons (fun _ _ _ _ _ _ h => h) <| LastsL.cons (fun _ _ _ _ _ _ h => h) <| LastsL.cons (fun _ _ _ _ _ _ h => h) <| LastsL.cons (fun _ _ _ _ _ _ h => h) <| LastsL.cons (fun _ _ _ _ _ _ h => h) <| LastsL.cons (fun _ _ _ _ _ _ h => h) <| LastsL.cons (fun _ _ _ _ _ _ h => h) <| LastsL.nil
    · refine StepsB.cons ?_ <| StepsB.cons ?_ <| StepsB.cons ?_ <| StepsB.cons ?_ <| StepsB.cons ?_ <| StepsB.cons ?_ <| StepsB.cons ?_ <| StepsB.cons ?_ <| StepsB.nil
      · intro ρ w a hw hG hf hd K hK
        exact dv_ hK hw (wn rfl) (r_move hf rfl) rfl
      · intro ρ w a hw hG hf hd K hK
        exact dv_ hK hw (wn rfl) (r_move hf rfl) rfl
      · intro ρ w a hw hG hf hd K hK
        obtain ⟨_, hf, rfl⟩ := got (hd 0 (by kernel_rfl)) hf
        obtain ⟨_, hf, rfl⟩ := got (hd 1 (by kernel_rfl)) hf
        exact dv_ hK hw (wn rfl) (r_idx Try.underlying24 sz36 hf rfl ⟨_, he6⟩ rfl hc5.1 hc5.2) rfl
      · intro ρ w a hw hG hf hd K hK
        obtain ⟨_, hf, rfl⟩ := got (hd 2 (by kernel_rfl)) hf
        exact dv_ hK hw (wn rfl) (r_load_cell ty36 hf rfl (hl6.below hw.below)) rfl
      · intro ρ w a hw hG hf hd K hK
        exact dv_ hK hw (wn rfl) (r_move hf rfl) rfl
      · intro ρ w a hw hG hf hd K hK
        exact dv_ hK hw (wn rfl) (r_move hf rfl) rfl
      · intro ρ w a hw hG hf hd K hK
        obtain ⟨_, hf, rfl⟩ := got (hd 4 (by kernel_rfl)) hf
        obtain ⟨_, hf, rfl⟩ := got (hd 5 (by kernel_rfl)) hf
        exact dv_ hK hw (wn rfl) (r_idx Try.underlying24 sz36 hf rfl ⟨_, he8⟩ rfl hc7.1 hc7.2) rfl
      · intro ρ w a hw hG hf hd K hK
        obtain ⟨_, hf, rfl⟩ := got (hd 6 (by kernel_rfl)) hf
        exact dv_ hK hw (wn rfl) (r_load_cell ty36 hf rfl (hl8.below hw.below)) rfl
    intro ρ w a hw hG hf hd
    obtain ⟨_, hf, rfl⟩ := got (hd 3 (by decide)) hf
    obtain ⟨_, hf, rfl⟩ := got (hd 7 (by decide)) hf
    obtain ⟨x9, hx10, hF⟩ := of_bind hF
    refine st_fn 1 hw hf rfl rfl (by decide) (r_fn en58 hf rfl) (laws_likeInts_ok (ho6.now hw) (ho8.now hw) hx10) fun a v w ρ hf hw hE hN hΦ => ?_
    obtain rfl := hΦ
    refine s_ hf (r_not hf rfl) fun a hf => ?_
    refine c_nt ?_
    rcases of_ite hF with ⟨hb11, hF⟩ | ⟨hb11, hF⟩
    rotate_left
    · refine c_iff hf rfl hb11 <| c_skip <| n_block <| n_then <| c_region ?_
      refine s_ hf (r_move hf rfl) fun a hf => ?_
      refine s_ hf (r_add hf rfl rfl) fun a hf => ?_
      refine s_ hf (r_assign hf rfl) fun a hf => ?_
      refine c_nil ?_
      obtain rfl := Option.some.inj hF
      exact Rnd.goes ⟨_, hw, hf.sub ⟨rfl, rfl, rfl, trivial⟩⟩
    refine c_ift hf rfl hb11 <| c_seq <| c_region ?_
    refine s_ hf (r_assign hf rfl) fun a hf => ?_
    refine c_nt <| c_retc ?_
    obtain rfl := Option.some.inj hF
    refine r_block <| r_then ?_
    refine Rnd.rets fun ho => ?_
    subst ho
    have hF := hG2
    dsimp only at hF
    obtain rfl := Option.some.inj hF
    refine r_block <| r_then <| c_ret hf (res_tmp Try.results13 hf rfl) ?_
    exact ⟨_, rfl, hw.below, rfl⟩
  rintro s3 a w hs ⟨ρ, hw, hf⟩
  subst hs
  have hF := hG2
  dsimp only at hF
  refine x_block <| n_then <| c_seq <| c_region ?_
  refine s_ hf (r_assign hf rfl) fun a hf => ?_
  refine c_nt <| c_retc ?_
  obtain rfl := Option.some.inj hF
  refine c_ret hf (res_tmp Try.results13 hf rfl) ?_
  exact ⟨_, rfl, hw.below, rfl⟩
/-! f14 -/
noncomputable def impl_IsInvertible (a0 : Int) (a1 : List (List Int)) : Option (Bool × Int) :=
  (impl_isSquare a0 a1).bind fun x1 => if (!x1) = true then (some ((false, 2))) else ((impl_isInvertible a0 a1).bind fun x4 => some ((x4, 0)))
theorem impl_IsInvertible_ok {w0 : World} {a0 : Int} {a1 : List (List Int)} {va1 : Value} (h1 : Ro (Kd.slice 2 (kf fI64)) w0 va1 a1) {r : Bool × Int} (hF : impl_IsInvertible a0 a1 = some r) :
    Calls Try.prog 14 [vI a0, va1].toArray w0 fun e w => ∃ v, e = .returned v ∧ Below w0.heap.size w0 w ∧ .tuple #[.bool r.1, .int .i64 r.2] = v := by
  refine calls_of (k := 13) Try.func14 rfl rfl (Nat.le_of_ble_eq_true rfl) fun a hf => ?_
  replace hf : Fr 13 a [(0, vI a0), (1, va1)] := hf
  refine c_start fun w ρ hw => ?_
  unfold impl_IsInvertible at hF
  refine c_seq <| c_region ?_
  refine s_ hf (r_assign hf rfl) fun a hf => ?_
  refine s_ hf (r_assign hf rfl) fun a hf => ?_
  refine c_nt <| c_seq <| c_seq <| c_region ?_
  refine s_ hf (r_move hf rfl) fun a hf => ?_
  refine s_ hf (r_move hf rfl) fun a hf => ?_
  obtain ⟨x1, hx2, hF⟩ := of_bind hF
  refine st_fn 1 hw hf rfl rfl (by decide) (r_fn en53 hf rfl) (impl_isSquare_ok (h1.now hw) hx2) fun a v w ρ hf hw hE hN hΦ => ?_
  obtain rfl := hΦ
  refine s_ hf (r_not hf rfl) fun a hf => ?_
  refine c_nt ?_
  rcases of_ite hF with ⟨hb3, hF⟩ | ⟨hb3, hF⟩
  · refine c_ift hf rfl hb3 <| c_seq <| c_region ?_
    refine s_ hf (r_assign hf rfl) fun a hf => ?_
    refine s_ hf (r_assign hf rfl) fun a hf => ?_
    refine c_nt <| c_retc ?_
    obtain rfl := Option.some.inj hF
    refine r_then <| c_ret hf (res_tt Try.results14 hf rfl rfl) ?_
    exact ⟨_, rfl, hw.below, rfl⟩
  refine c_iff hf rfl hb3 <| c_skip <| n_then <| c_seq <| c_region ?_
  refine s_ hf (r_move hf rfl) fun a hf => ?_
  refine s_ hf (r_move hf rfl) fun a hf => ?_
  obtain ⟨x4, hx5, hF⟩ := of_bind hF
  refine st_fn 2 hw hf rfl rfl (by decide) (r_fn en54 hf rfl) (impl_isInvertible_ok (h1.now hw) hx5) fun a v w ρ hf hw hE hN hΦ => ?_
  obtain rfl := hΦ
  refine s_ hf (r_assign hf rfl) fun a hf => ?_
  refine s_ hf (r_assign hf rfl) fun a hf => ?_
  refine c_nt <| c_retc ?_
  obtain rfl := Option.some.inj hF
  refine c_ret hf (res_tt Try.results14 hf rfl rfl) ?_
  exact ⟨_, rfl, hw.below, rfl⟩
/-! f15 -/
noncomputable def spec_IsInvertible (a0 : Int) (a1 : List (List Int)) : Option (Bool × Int) :=
  (spec_l04Square a0 a1).bind fun x1 => if (!x1) = true then (some ((false, 2))) else ((spec_l04Inverse a0 a1).bind fun x4 => some ((x4.2, 0)))
theorem spec_IsInvertible_ok {w0 : World} {a0 : Int} {a1 : List (List Int)} {va1 : Value} (h1 : Ro (Kd.slice 2 (kf fI64)) w0 va1 a1) {r : Bool × Int} (hF : spec_IsInvertible a0 a1 = some r) :
    Calls Try.prog 15 [vI a0, va1].toArray w0 fun e w => ∃ v, e = .returned v ∧ Below w0.heap.size w0 w ∧ .tuple #[.bool r.1, .int .i64 r.2] = v := by
  refine calls_of (k := 19) Try.func15 rfl rfl (Nat.le_of_ble_eq_true rfl) fun a hf => ?_
  replace hf : Fr 19 a [(0, vI a0), (1, va1)] := hf
  refine c_start fun w ρ hw => ?_
  unfold spec_IsInvertible at hF
  refine c_seq <| c_region ?_
  refine s_ hf (r_assign hf rfl) fun a hf => ?_
  refine s_ hf (r_assign hf rfl) fun a hf => ?_
  refine c_nt <| c_seq <| c_seq <| c_region ?_
  refine s_ hf (r_move hf rfl) fun a hf => ?_
  refine s_ hf (r_move hf rfl) fun a hf => ?_
  obtain ⟨x1, hx2, hF⟩ := of_bind hF
  refine st_fn 1 hw hf rfl rfl (by decide) (r_fn en56 hf rfl) (spec_l04Square_ok (h1.now hw) hx2) fun a v w ρ hf hw hE hN hΦ => ?_
  obtain rfl := hΦ
  refine s_ hf (r_not hf rfl) fun a hf => ?_
  refine c_nt ?_
  rcases of_ite hF with ⟨hb3, hF⟩ | ⟨hb3, hF⟩
  · refine c_ift hf rfl hb3 <| c_seq <| c_region ?_
    refine s_ hf (r_assign hf rfl) fun a hf => ?_
    refine s_ hf (r_assign hf rfl) fun a hf => ?_
    refine c_nt <| c_retc ?_
    obtain rfl := Option.some.inj hF
    refine r_then <| c_ret hf (res_tt Try.results15 hf rfl rfl) ?_
    exact ⟨_, rfl, hw.below, rfl⟩
  refine c_iff hf rfl hb3 <| c_skip <| n_then <| c_seq <| c_region ?_
  refine s_ hf (r_move hf rfl) fun a hf => ?_
  refine s_ hf (r_move hf rfl) fun a hf => ?_
  obtain ⟨x4, hx5, hF⟩ := of_bind hF
  refine st_fn 2 hw hf rfl rfl (by decide) (r_fn en57 hf rfl) (spec_l04Inverse_ok (h1.now hw) hx5) fun a v w ρ hf hw hE hN hΦ => ?_
  obtain ⟨u6, rfl, hr7⟩ := hΦ
  have o2 := hN hr7
  refine s_ hf (r_move hf rfl) fun a hf => ?_
  refine s_ hf (r_extract hf rfl rfl) fun a hf => ?_
  refine s_ hf (r_extract hf rfl rfl) fun a hf => ?_
  refine s_ hf (r_assign hf rfl) fun a hf => ?_
  refine s_ hf (r_assign hf rfl) fun a hf => ?_
  refine c_nt <| c_seq <| c_region ?_
  refine s_ hf (r_move hf rfl) fun a hf => ?_
  refine s_ hf (r_assign hf rfl) fun a hf => ?_
  refine s_ hf (r_assign hf rfl) fun a hf => ?_
  refine c_nt <| c_retc ?_
  obtain rfl := Option.some.inj hF
  refine c_ret hf (res_tt Try.results15 hf rfl rfl) ?_
  exact ⟨_, rfl, hw.below, rfl⟩
/-! f64 -/
noncomputable def impl_power_l1 (a0 : Int) (a1 : Int) (s2 : Int) (s3 : Int) : Option (LR (Int × Int) Int) :=
  if (decide (s3 < a1)) = true then (some (.next (w64 (s2 * a0), w64 (s3 + 1)))) else (some (.stop (s2, s3)))
noncomputable def impl_power (a0 : Int) (a1 : Int) : Option Int :=
  (iter (fun s => impl_power_l1 a0 a1 s.1 s.2) (1, 0)).bind fun o => match o with | .stop (s2, s3) => (some (s2)) | .ret r => some r | .next _ => none
theorem impl_power_ok {w0 : World} {a0 : Int} {a1 : Int}   {r : Int} (hF : impl_power a0 a1 = some r) :
    Calls Try.prog 64 [vI a0, vI a1].toArray w0 fun e w => ∃ v, e = .returned v ∧ Below w0.heap.size w0 w ∧ .int .i64 r = v := by
  refine calls_of (k := 14) Try.func64 rfl rfl (Nat.le_of_ble_eq_true rfl) fun a hf => ?_
  replace hf : Fr 14 a [(0, vI a0), (1, vI a1)] := hf
  refine c_start fun w ρ hw => ?_
  unfold impl_power at hF
  refine c_seq <| c_region ?_
  refine s_ hf (r_assign hf rfl) fun a hf => ?_
  refine c_nt <| c_seq <| c_region ?_
  refine s_ hf (r_assign hf rfl) fun a hf => ?_
  refine c_nt <| c_seq <| c_seq <| c_region ?_
  refine s_ hf (r_move hf rfl) fun a hf => ?_
  refine s_ hf (r_move hf rfl) fun a hf => ?_
  refine c_nt ?_
  obtain ⟨ol1, ho1, hG1⟩ := of_bind hF
  clear hF
  refine c_block (c_loop (id := 0) (fun s => impl_power_l1 a0 a1 s.1 s.2) (fun (s : Int × Int) a w => match s with | (s2, s3) => ∃ ρ, Wd w0 ρ w ∧ Fr 14 a [(0, vI a0), (5, vI s2), (6, vI a1), (7, vI s3)]) (fun (s : Int × Int) a w => match s with | (s2, s3) => ∃ ρ, Wd w0 ρ w ∧ Fr 14 a [(5, vI s2)]) ho1 ⟨_, hw, hf.sub ⟨rfl, rfl, rfl, rfl, trivial⟩⟩ ?_ ?_)
  · rintro ⟨s2, s3⟩ lr a w ⟨ρ, hw, hf⟩ hF
    replace hF : impl_power_l1 a0 a1 s2 s3 = some lr := hF
    unfold impl_power_l1 at hF
    refine c_seq <| c_region ?_
    refine s_ hf (r_lss hf rfl rfl) fun a hf => ?_
    refine c_nt <| c_seq ?_
    rcases of_ite hF with ⟨hb4, hF⟩ | ⟨hb4, hF⟩
    rotate_left
    · refine c_iff hf rfl hb4 <| c_exit <| x_then ?_
      obtain rfl := Option.some.inj hF
      exact Rnd.stops ⟨_, hw, hf.sub ⟨rfl, trivial⟩⟩
    refine c_ift hf rfl hb4 <| c_skip <| n_then <| c_seq <| c_block <| c_region ?_
    refine s_ hf (r_move hf rfl) fun a hf => ?_
    refine s_ hf (r_move hf rfl) fun a hf => ?_
    refine s_ hf (r_mul hf rfl rfl) fun a hf => ?_
    refine s_ hf (r_assign hf rfl) fun a hf => ?_
    refine c_nil <| n_block <| n_then <| c_region ?_
    refine s_ hf (r_add hf rfl rfl) fun a hf => ?_
    refine s_ hf (r_move hf rfl) fun a hf => ?_
    refine c_nil ?_
    obtain rfl := Option.some.inj hF
    exact Rnd.goes ⟨_, hw, hf.sub ⟨rfl, rfl, rfl, rfl, trivial⟩⟩
  rintro ⟨s2, s3⟩ a w hs ⟨ρ, hw, hf⟩
  subst hs
  have hF := hG1
  dsimp only at hF
  refine x_block <| n_then <| c_seq <| c_region ?_
  refine s_ hf (r_move hf rfl) fun a hf => ?_
  refine s_ hf (r_assign hf rfl) fun a hf => ?_
  refine c_nt <| c_retc ?_
  obtain rfl := Option.some.inj hF
  refine c_ret hf (res_tmp Try.results64 hf rfl) ?_
  exact ⟨_, rfl, hw.below, rfl⟩
/-! f17 -/
noncomputable def impl_CountInvertible_l9 (a0 : Int) (a1 : Int) (s10 : Int) (s11 : Int) : Option (LR (Int × Int) (Int × Int)) :=
  if (decide (s11 < a1)) = true then ((impl_power a0 a1).bind fun x13 => (impl_power a0 s11).bind fun x15 => some (.next (w64 (s10 * (w64 (x13 - x15))), w64 (s11 + 1)))) else (some (.stop (s10, s11)))
noncomputable def impl_CountInvertible (a0 : Int) (a1 : Int) : Option (Int × Int) :=
  ((impl_isPrime a0).bind fun x3 => if (!x3) = true then (some true) else ((impl_isSize ([a1])).bind fun x6 => some (!x6))).bind fun (s2 : Bool) => if s2 = true then (some ((0, 2))) else ((iter (fun s => impl_CountInvertible_l9 a0 a1 s.1 s.2) (1, 0)).bind fun o => match o with | .stop (s10, s11) => (some ((s10, 0))) | .ret r => some r | .next _ => none)
theorem impl_CountInvertible_ok {w0 : World} {a0 : Int} {a1 : Int}   {r : Int × Int} (hF : impl_CountInvertible a0 a1 = some r) :
    Calls Try.prog 17 [vI a0, vI a1].toArray w0 fun e w => ∃ v, e = .returned v ∧ Below w0.heap.size w0 w ∧ .tuple #[.int .i64 r.1, .int .i64 r.2] = v := by
  refine calls_of (k := 32) Try.func17 rfl rfl (Nat.le_of_ble_eq_true rfl) fun a hf => ?_
  replace hf : Fr 32 a [(0, vI a0), (1, vI a1)] := hf
  refine c_start fun w ρ hw => ?_
  unfold impl_CountInvertible at hF
  refine c_seq <| c_region ?_
  refine s_ hf (r_assign hf rfl) fun a hf => ?_
  refine s_ hf (r_assign hf rfl) fun a hf => ?_
  refine c_nt <| c_seq <| c_seq ?_
  obtain ⟨s2, hT1, hG1⟩ := of_bind hF
  clear hF
  refine c_meet (fun (s2 : Bool) a w => ∃ ρ, Wd w0 ρ w ∧ Fr 32 a [(0, vI a0), (1, vI a1), (16, .bool s2)]) s2 ?_ ?_
  · have hF := hT1
    refine c_region ?_
    refine s_ hf (r_move hf rfl) fun a hf => ?_
    obtain ⟨x3, hx4, hF⟩ := of_bind hF
    refine st_fn 1 hw hf rfl rfl (by decide) (r_fn en62 hf rfl) (impl_isPrime_ok  hx4) fun a v w ρ hf hw hE hN hΦ => ?_
    obtain rfl := hΦ
    refine s_ hf (r_not hf rfl) fun a hf => ?_
    refine s_ hf (r_move hf rfl) fun a hf => ?_
    rcases of_ite hF with ⟨hb5, hF⟩ | ⟨hb5, hF⟩
    · refine st_no (b := true) hf rfl rfl rfl hb5 rfl (by decide) fun a hf => ?_
      refine st_no (b := true) hf rfl rfl rfl hb5 rfl (by decide) fun a hf => ?_
      refine st_no (b := true) hf rfl rfl rfl hb5 rfl (by decide) fun a hf => ?_
      refine st_no (b := true) hf rfl rfl rfl hb5 rfl (by decide) fun a hf => ?_
      refine s_ hf (r_pick (b := true) hf rfl hb5 rfl) fun a hf => ?_
      refine c_nil ⟨rfl, ?_⟩
      obtain rfl := Option.some.inj hF
      exact ⟨_, hw, hf.sub ⟨rfl, rfl, rfl, trivial⟩⟩
    refine st_g (b := false) hf rfl rfl rfl hb5 rfl (by decide) (r_move hf rfl) fun a hf => ?_
    refine st_gex (b := false) hf rfl rfl rfl hb5 rfl (by decide) (r_lit (d := fI64) (xs := ([a1] : List Int)) (vs := [vI a1]) 2 Try.underlying36 el2 (Nat.le_of_ble_eq_true rfl) (Nat.le_of_ble_eq_true rfl) hw hf rfl rfl rfl) fun a v2 w hf hΦ => ?_
    obtain ⟨ρ, hw, hE, o2⟩ := hΦ
    obtain ⟨x6, hx7, hF⟩ := of_bind hF
    refine st_gfn (b := false) 3 hw hf rfl rfl rfl hb5 rfl (by decide) (r_fn en63 hf rfl) (impl_isSize_ok o2.ro hx7) fun a v w ρ hf hw hE hN hΦ => ?_
    obtain rfl := hΦ
    replace o2 := o2.ext hE
    refine st_g (b := false) hf rfl rfl rfl hb5 rfl (by decide) (r_not hf rfl) fun a hf => ?_
    refine s_ hf (r_pick (b := false) hf rfl hb5 rfl) fun a hf => ?_
    refine c_nil ⟨rfl, ?_⟩
    obtain rfl := Option.some.inj hF
    exact ⟨_, hw, hf.sub ⟨rfl, rfl, rfl, trivial⟩⟩
  rintro a w ⟨ρ, hw, hf⟩
  have hF := hG1
  refine n_then ?_
  rcases of_ite hF with ⟨hb8, hF⟩ | ⟨hb8, hF⟩
  · refine c_ift hf rfl hb8 <| c_seq <| c_region ?_
    refine s_ hf (r_assign hf rfl) fun a hf => ?_
    refine s_ hf (r_assign hf rfl) fun a hf => ?_
    refine c_nt <| c_retc ?_
    obtain rfl := Option.some.inj hF
    refine r_then <| c_ret hf (res_tt Try.results17 hf rfl rfl) ?_
    exact ⟨_, rfl, hw.below, rfl⟩
  refine c_iff hf rfl hb8 <| c_skip <| n_then <| c_seq <| c_region ?_
  refine s_ hf (r_assign hf rfl) fun a hf => ?_
  refine c_nt <| c_seq <| c_seq <| c_region ?_
  refine s_ hf (r_move hf rfl) fun a hf => ?_
  refine s_ hf (r_move hf rfl) fun a hf => ?_
  refine c_nt ?_
  obtain ⟨ol9, ho9, hG9⟩ := of_bind hF
  clear hF
  refine c_block (c_loop (id := 0) (fun s => impl_CountInvertible_l9 a0 a1 s.1 s.2) (fun (s : Int × Int) a w => match s with | (s10, s11) => ∃ ρ, Wd w0 ρ w ∧ Fr 32 a [(0, vI a0), (1, vI a1), (6, vI s10), (17, vI a1), (18, vI s11)]) (fun (s : Int × Int) a w => match s with | (s10, s11) => ∃ ρ, Wd w0 ρ w ∧ Fr 32 a [(6, vI s10)]) ho9 ⟨_, hw, hf.sub ⟨rfl, rfl, rfl, rfl, rfl, trivial⟩⟩ ?_ ?_)
  · rintro ⟨s10, s11⟩ lr a w ⟨ρ, hw, hf⟩ hF
    replace hF : impl_CountInvertible_l9 a0 a1 s10 s11 = some lr := hF
    unfold impl_CountInvertible_l9 at hF
    refine c_seq <| c_region ?_
    refine s_ hf (r_lss hf rfl rfl) fun a hf => ?_
    refine c_nt <| c_seq ?_
    rcases of_ite hF with ⟨hb12, hF⟩ | ⟨hb12, hF⟩
    rotate_left
    · refine c_iff hf rfl hb12 <| c_exit <| x_then ?_
      obtain rfl := Option.some.inj hF
      exact Rnd.stops ⟨_, hw, hf.sub ⟨rfl, trivial⟩⟩
    refine c_ift hf rfl hb12 <| c_skip <| n_then <| c_seq <| c_block <| c_seq <| c_region ?_
    refine s_ hf (r_move hf rfl) fun a hf => ?_
    refine s_ hf (r_assign hf rfl) fun a hf => ?_
    refine c_nt <| c_region ?_
    refine s_ hf (r_move hf rfl) fun a hf => ?_
    refine s_ hf (r_move hf rfl) fun a hf => ?_
    refine s_ hf (r_move hf rfl) fun a hf => ?_
    obtain ⟨x13, hx14, hF⟩ := of_bind hF
    refine st_fn 4 hw hf rfl rfl (by decide) (r_fn en64 hf rfl) (impl_power_ok  hx14) fun a v w ρ hf hw hE hN hΦ => ?_
    obtain rfl := hΦ
    refine s_ hf (r_move hf rfl) fun a hf => ?_
    refine s_ hf (r_move hf rfl) fun a hf => ?_
    obtain ⟨x15, hx16, hF⟩ := of_bind hF
    refine st_fn 5 hw hf rfl rfl (by decide) (r_fn en64 hf rfl) (impl_power_ok  hx16) fun a v w ρ hf hw hE hN hΦ => ?_
    obtain rfl := hΦ
    refine s_ hf (r_sub hf rfl rfl) fun a hf => ?_
    refine s_ hf (r_mul hf rfl rfl) fun a hf => ?_
    refine s_ hf (r_assign hf rfl) fun a hf => ?_
    refine c_nil <| n_block <| n_then <| c_region ?_
    refine s_ hf (r_add hf rfl rfl) fun a hf => ?_
    refine s_ hf (r_move hf rfl) fun a hf => ?_
    refine c_nil ?_
    obtain rfl := Option.some.inj hF
    exact Rnd.goes ⟨_, hw, hf.sub ⟨rfl, rfl, rfl, rfl, rfl, trivial⟩⟩
  rintro ⟨s10, s11⟩ a w hs ⟨ρ, hw, hf⟩
  subst hs
  have hF := hG9
  dsimp only at hF
  refine x_block <| n_then <| c_seq <| c_region ?_
  refine s_ hf (r_move hf rfl) fun a hf => ?_
  refine s_ hf (r_assign hf rfl) fun a hf => ?_
  refine s_ hf (r_assign hf rfl) fun a hf => ?_
  refine c_nt <| c_retc ?_
  obtain rfl := Option.some.inj hF
  refine c_ret hf (res_tt Try.results17 hf rfl rfl) ?_
  exact ⟨_, rfl, hw.below, rfl⟩
/-! f18 -/
noncomputable def spec_CountInvertible_l9 (a0 : Int) (a1 : Int) (s10 : Int) (s11 : Int) : Option (LR (Int × Int) (Int × Int)) :=
  if (decide (s11 < a1)) = true then (some (.next (w64 (s10 * a0), w64 (s11 + 1)))) else (some (.stop (s10, s11)))
noncomputable def spec_CountInvertible_l13 (a0 : Int) (a1 : Int) (s10 : Int) (s14 : Int) (s15 : Int) (s16 : Int) : Option (LR (Int × Int × Int) (Int × Int)) :=
  if (decide (s16 < a1)) = true then (some (.next (w64 (s14 * a0), w64 (s15 * (w64 (s10 - s14))), w64 (s16 + 1)))) else (some (.stop (s14, s15, s16)))
noncomputable def spec_CountInvertible (a0 : Int) (a1 : Int) : Option (Int × Int) :=
  ((spec_l01Prime a0).bind fun x3 => if (!x3) = true then (some true) else ((spec_l01In a1 1 3).bind fun x6 => some (!x6))).bind fun (s2 : Bool) => if s2 = true then (some ((0, 2))) else ((iter (fun s => spec_CountInvertible_l9 a0 a1 s.1 s.2) (1, 0)).bind fun o => match o with | .stop (s10, s11) => ((iter (fun s => spec_CountInvertible_l13 a0 a1 s10 s.1 s.2.1 s.2.2) (1, 1, 0)).bind fun o => match o with | .stop (s14, s15, s16) => (some ((s15, 0))) | .ret r => some r | .next _ => none) | .ret r => some r | .next _ => none)
theorem spec_CountInvertible_ok {w0 : World} {a0 : Int} {a1 : Int}   {r : Int × Int} (hF : spec_CountInvertible a0 a1 = some r) :
    Calls Try.prog 18 [vI a0, vI a1].toArray w0 fun e w => ∃ v, e = .returned v ∧ Below w0.heap.size w0 w ∧ .tuple #[.int .i64 r.1, .int .i64 r.2] = v := by
  refine calls_of (k := 41) Try.func18 rfl rfl (Nat.le_of_ble_eq_true rfl) fun a hf => ?_
  replace hf : Fr 41 a [(0, vI a0), (1, vI a1)] := hf
  refine c_start fun w ρ hw => ?_
  unfold spec_CountInvertible at hF
  refine c_seq <| c_region ?_
  refine s_ hf (r_assign hf rfl) fun a hf => ?_
  refine s_ hf (r_assign hf rfl) fun a hf => ?_
  refine c_nt <| c_seq <| c_seq ?_
  obtain ⟨s2, hT1, hG1⟩ := of_bind hF
  clear hF
  refine c_meet (fun (s2 : Bool) a w => ∃ ρ, Wd w0 ρ w ∧ Fr 41 a [(0, vI a0), (1, vI a1), (18, .bool s2)]) s2 ?_ ?_
  · have hF := hT1
    refine c_region ?_
    refine s_ hf (r_move hf rfl) fun a hf => ?_
    obtain ⟨x3, hx4, hF⟩ := of_bind hF
    refine st_fn 1 hw hf rfl rfl (by decide) (r_fn en65 hf rfl) (spec_l01Prime_ok  hx4) fun a v w ρ hf hw hE hN hΦ => ?_
    obtain rfl := hΦ
    refine s_ hf (r_not hf rfl) fun a hf => ?_
    refine s_ hf (r_move hf rfl) fun a hf => ?_
    rcases of_ite hF with ⟨hb5, hF⟩ | ⟨hb5, hF⟩
    · refine st_no (b := true) hf rfl rfl rfl hb5 rfl (by decide) fun a hf => ?_
      refine st_no (b := true) hf rfl rfl rfl hb5 rfl (by decide) fun a hf => ?_
      refine st_no (b := true) hf rfl rfl rfl hb5 rfl (by decide) fun a hf => ?_
      refine s_ hf (r_pick (b := true) hf rfl hb5 rfl) fun a hf => ?_
      refine c_nil ⟨rfl, ?_⟩
      obtain rfl := Option.some.inj hF
      exact ⟨_, hw, hf.sub ⟨rfl, rfl, rfl, trivial⟩⟩
    refine st_g (b := false) hf rfl rfl rfl hb5 rfl (by decide) (r_move hf rfl) fun a hf => ?_
    obtain ⟨x6, hx7, hF⟩ := of_bind hF
    refine st_gfn (b := false) 2 hw hf rfl rfl rfl hb5 rfl (by decide) (r_fn en66 hf rfl) (spec_l01In_ok  hx7) fun a v w ρ hf hw hE hN hΦ => ?_
    obtain rfl := hΦ
    refine st_g (b := false) hf rfl rfl rfl hb5 rfl (by decide) (r_not hf rfl) fun a hf => ?_
    refine s_ hf (r_pick (b := false) hf rfl hb5 rfl) fun a hf => ?_
    refine c_nil ⟨rfl, ?_⟩
    obtain rfl := Option.some.inj hF
    exact ⟨_, hw, hf.sub ⟨rfl, rfl, rfl, trivial⟩⟩
  rintro a w ⟨ρ, hw, hf⟩
  have hF := hG1
  refine n_then ?_
  rcases of_ite hF with ⟨hb8, hF⟩ | ⟨hb8, hF⟩
  · refine c_ift hf rfl hb8 <| c_seq <| c_region ?_
    refine s_ hf (r_assign hf rfl) fun a hf => ?_
    refine s_ hf (r_assign hf rfl) fun a hf => ?_
    refine c_nt <| c_retc ?_
    obtain rfl := Option.some.inj hF
    refine r_then <| c_ret hf (res_tt Try.results18 hf rfl rfl) ?_
    exact ⟨_, rfl, hw.below, rfl⟩
  refine c_iff hf rfl hb8 <| c_skip <| n_then <| c_seq <| c_region ?_
  refine s_ hf (r_assign hf rfl) fun a hf => ?_
  refine s_ hf (r_assign hf rfl) fun a hf => ?_
  refine s_ hf (r_assign hf rfl) fun a hf => ?_
  refine c_nt <| c_seq <| c_seq <| c_region ?_
  refine s_ hf (r_assign hf rfl) fun a hf => ?_
  refine c_nt ?_
  obtain ⟨ol9, ho9, hG9⟩ := of_bind hF
  clear hF
  refine c_block (c_loop (id := 0) (fun s => spec_CountInvertible_l9 a0 a1 s.1 s.2) (fun (s : Int × Int) a w => match s with | (s10, s11) => ∃ ρ, Wd w0 ρ w ∧ Fr 41 a [(0, vI a0), (1, vI a1), (6, vI s10), (7, vI 1), (8, vI 1), (9, vI s11)]) (fun (s : Int × Int) a w => match s with | (s10, s11) => ∃ ρ, Wd w0 ρ w ∧ Fr 41 a [(0, vI a0), (1, vI a1), (6, vI s10), (7, vI 1), (8, vI 1)]) ho9 ⟨_, hw, hf.sub ⟨rfl, rfl, rfl, rfl, rfl, rfl, trivial⟩⟩ ?_ ?_)
  · rintro ⟨s10, s11⟩ lr a w ⟨ρ, hw, hf⟩ hF
    replace hF : spec_CountInvertible_l9 a0 a1 s10 s11 = some lr := hF
    unfold spec_CountInvertible_l9 at hF
    refine c_seq <| c_seq <| c_region ?_
    refine s_ hf (r_move hf rfl) fun a hf => ?_
    refine s_ hf (r_move hf rfl) fun a hf => ?_
    refine s_ hf (r_lss hf rfl rfl) fun a hf => ?_
    refine c_nt ?_
    rcases of_ite hF with ⟨hb12, hF⟩ | ⟨hb12, hF⟩
    rotate_left
    · refine c_iff hf rfl hb12 <| c_exit <| x_then ?_
      obtain rfl := Option.some.inj hF
      exact Rnd.stops ⟨_, hw, hf.sub ⟨rfl, rfl, rfl, rfl, rfl, trivial⟩⟩
    refine c_ift hf rfl hb12 <| c_skip <| n_then <| c_seq <| c_block <| c_region ?_
    refine s_ hf (r_move hf rfl) fun a hf => ?_
    refine s_ hf (r_move hf rfl) fun a hf => ?_
    refine s_ hf (r_mul hf rfl rfl) fun a hf => ?_
    refine s_ hf (r_assign hf rfl) fun a hf => ?_
    refine c_nil <| n_block <| n_then <| c_region ?_
    refine s_ hf (r_move hf rfl) fun a hf => ?_
    refine s_ hf (r_add hf rfl rfl) fun a hf => ?_
    refine s_ hf (r_assign hf rfl) fun a hf => ?_
    refine c_nil ?_
    obtain rfl := Option.some.inj hF
    exact Rnd.goes ⟨_, hw, hf.sub ⟨rfl, rfl, rfl, rfl, rfl, rfl, trivial⟩⟩
  rintro ⟨s10, s11⟩ a w hs ⟨ρ, hw, hf⟩
  subst hs
  have hF := hG9
  dsimp only at hF
  refine x_block <| n_then <| c_seq <| c_seq <| c_region ?_
  refine s_ hf (r_assign hf rfl) fun a hf => ?_
  refine c_nt ?_
  obtain ⟨ol13, ho13, hG13⟩ := of_bind hF
  clear hF
  refine c_block (c_loop (id := 2) (fun s => spec_CountInvertible_l13 a0 a1 s10 s.1 s.2.1 s.2.2) (fun (s : Int × Int × Int) a w => match s with | (s14, s15, s16) => ∃ ρ, Wd w0 ρ w ∧ Fr 41 a [(0, vI a0), (1, vI a1), (6, vI s10), (7, vI s14), (8, vI s15), (10, vI s16)]) (fun (s : Int × Int × Int) a w => match s with | (s14, s15, s16) => ∃ ρ, Wd w0 ρ w ∧ Fr 41 a [(8, vI s15)]) ho13 ⟨_, hw, hf.sub ⟨rfl, rfl, rfl, rfl, rfl, rfl, trivial⟩⟩ ?_ ?_)
  · rintro ⟨s14, s15, s16⟩ lr a w ⟨ρ, hw, hf⟩ hF
    replace hF : spec_CountInvertible_l13 a0 a1 s10 s14 s15 s16 = some lr := hF
    unfold spec_CountInvertible_l13 at hF
    refine c_seq <| c_seq <| c_region ?_
    refine s_ hf (r_move hf rfl) fun a hf => ?_
    refine s_ hf (r_move hf rfl) fun a hf => ?_
    refine s_ hf (r_lss hf rfl rfl) fun a hf => ?_
    refine c_nt ?_
    rcases of_ite hF with ⟨hb17, hF⟩ | ⟨hb17, hF⟩
    rotate_left
    · refine c_iff hf rfl hb17 <| c_exit <| x_then ?_
      obtain rfl := Option.some.inj hF
      exact Rnd.stops ⟨_, hw, hf.sub ⟨rfl, trivial⟩⟩
    refine c_ift hf rfl hb17 <| c_skip <| n_then <| c_seq <| c_block <| c_seq <| c_region ?_
    refine s_ hf (r_move hf rfl) fun a hf => ?_
    refine s_ hf (r_move hf rfl) fun a hf => ?_
    refine s_ hf (r_move hf rfl) fun a hf => ?_
    refine s_ hf (r_sub hf rfl rfl) fun a hf => ?_
    refine s_ hf (r_mul hf rfl rfl) fun a hf => ?_
    refine s_ hf (r_assign hf rfl) fun a hf => ?_
    refine c_nt <| c_region ?_
    refine s_ hf (r_move hf rfl) fun a hf => ?_
    refine s_ hf (r_move hf rfl) fun a hf => ?_
    refine s_ hf (r_mul hf rfl rfl) fun a hf => ?_
    refine s_ hf (r_assign hf rfl) fun a hf => ?_
    refine c_nil <| n_block <| n_then <| c_region ?_
    refine s_ hf (r_move hf rfl) fun a hf => ?_
    refine s_ hf (r_add hf rfl rfl) fun a hf => ?_
    refine s_ hf (r_assign hf rfl) fun a hf => ?_
    refine c_nil ?_
    obtain rfl := Option.some.inj hF
    exact Rnd.goes ⟨_, hw, hf.sub ⟨rfl, rfl, rfl, rfl, rfl, rfl, trivial⟩⟩
  rintro ⟨s14, s15, s16⟩ a w hs ⟨ρ, hw, hf⟩
  subst hs
  have hF := hG13
  dsimp only at hF
  refine x_block <| n_then <| c_seq <| c_region ?_
  refine s_ hf (r_move hf rfl) fun a hf => ?_
  refine s_ hf (r_assign hf rfl) fun a hf => ?_
  refine s_ hf (r_assign hf rfl) fun a hf => ?_
  refine c_nt <| c_retc ?_
  obtain rfl := Option.some.inj hF
  refine c_ret hf (res_tt Try.results18 hf rfl rfl) ?_
  exact ⟨_, rfl, hw.below, rfl⟩
/-! f19 -/
noncomputable def impl_PlainProduct (a0 : Int) (a1 : List (List Int)) (a2 : List (List Int)) : Option (List (List Int) × Int) :=
  ((impl_isPrime a0).bind fun x3 => if (!x3) = true then (some true) else ((impl_isSize ([(a1.length : Int), (a2.length : Int)])).bind fun x6 => some (!x6))).bind fun (s2 : Bool) => if s2 = true then (some ((([] : List (List Int)), 2))) else (if 0 ≤ (0 : Int) ∧ (0 : Int) < (a2.length : Int) then (((impl_isSize ([((gl [] a2 (0 : Int)).length : Int)])).bind fun x13 => if (!x13) = true then (some true) else ((impl_isMatrix a0 (a1.length : Int) (a2.length : Int) a1).bind fun x16 => if (!x16) = true then (some true) else ((impl_isMatrix a0 (a2.length : Int) ((gl [] a2 (0 : Int)).length : Int) a2).bind fun x19 => some (!x19)))).bind fun (s12 : Bool) => if s12 = true then (some ((([] : List (List Int)), 2))) else ((impl_multiply a0 a1 a2).bind fun x22 => some ((x22, 0)))) else none)
theorem impl_PlainProduct_ok {w0 : World} {a0 : Int} {a1 : List (List Int)} {a2 : List (List Int)} {va1 : Value} {va2 : Value} (h1 : Ro (Kd.slice 2 (kf fI64)) w0 va1 a1) (h2 : Ro (Kd.slice 2 (kf fI64)) w0 va2 a2) {r : List (List Int) × Int} (hF : impl_PlainProduct a0 a1 a2 = some r) :
    Calls Try.prog 19 [vI a0, va1, va2].toArray w0 fun e w => ∃ v, e = .returned v ∧ Below w0.heap.size w0 w ∧ ∃ u0, .tuple #[u0, .int .i64 r.2] = v ∧ Fresh (Kd.slice 2 (kf fI64)) 36 w0 w u0 r.1 := by
  refine calls_of (k := 53) Try.func19 rfl rfl (Nat.le_of_ble_eq_true rfl) fun a hf => ?_
  replace hf : Fr 53 a [(0, vI a0), (1, va1), (2, va2)] := hf
  refine c_start fun w ρ hw => ?_
  unfold impl_PlainProduct at hF
  refine c_seq <| c_region ?_
  have o1 : Ow (Kd.slice 2 (kf fI64)) 36 ρ w w0.heap.size 1 (.slice none 0 0) [] := Ow.nil _ _ _ _ _ _
  refine s_ hf (r_assign hf rfl) fun a hf => ?_
  refine s_ hf (r_assign hf rfl) fun a hf => ?_
  refine c_nt <| c_seq <| c_region ?_
  refine s_ hf (r_move hf rfl) fun a hf => ?_
  refine s_ hf (r_len Try.underlying24 (h1.now hw) hf rfl) fun a hf => ?_
  refine s_ hf (r_move hf rfl) fun a hf => ?_
  refine s_ hf (r_len Try.underlying24 (h2.now hw) hf rfl) fun a hf => ?_
  refine s_ hf (r_assign hf rfl) fun a hf => ?_
  refine s_ hf (r_assign hf rfl) fun a hf => ?_
  refine c_nt <| c_seq <| c_seq ?_
  obtain ⟨s2, hT1, hG1⟩ := of_bind hF
  clear hF
  refine c_meet (fun (s2 : Bool) a w => ∃ ρ, Wd w0 ρ w ∧ Fr 53 a [(0, vI a0), (1, va1), (2, va2), (8, vI (a1.length : Int)), (9, vI (a2.length : Int)), (24, .bool s2)]) s2 ?_ ?_
  · have hF := hT1
    refine c_region ?_
    refine s_ hf (r_move hf rfl) fun a hf => ?_
    obtain ⟨x3, hx4, hF⟩ := of_bind hF
    refine st_fn 2 hw hf rfl rfl (by decide) (r_fn en62 hf rfl) (impl_isPrime_ok  hx4) fun a v w ρ hf hw hE hN hΦ => ?_
    obtain rfl := hΦ
    replace o1 := o1.ext hE
    refine s_ hf (r_not hf rfl) fun a hf => ?_
    refine s_ hf (r_move hf rfl) fun a hf => ?_
    rcases of_ite hF with ⟨hb5, hF⟩ | ⟨hb5, hF⟩
    · refine st_no (b := true) hf rfl rfl rfl hb5 rfl (by decide) fun a hf => ?_
      refine st_no (b := true) hf rfl rfl rfl hb5 rfl (by decide) fun a hf => ?_
      refine st_no (b := true) hf rfl rfl rfl hb5 rfl (by decide) fun a hf => ?_
      refine st_no (b := true) hf rfl rfl rfl hb5 rfl (by decide) fun a hf => ?_
      refine st_no (b := true) hf rfl rfl rfl hb5 rfl (by decide) fun a hf => ?_
      refine s_ hf (r_pick (b := true) hf rfl hb5 rfl) fun a hf => ?_
      refine c_nil ⟨rfl, ?_⟩
      obtain rfl := Option.some.inj hF
      exact ⟨_, hw, hf.sub ⟨rfl, rfl, rfl, rfl, rfl, rfl, trivial⟩⟩
    refine st_g (b := false) hf rfl rfl rfl hb5 rfl (by decide) (r_move hf rfl) fun a hf => ?_
    refine st_g (b := false) hf rfl rfl rfl hb5 rfl (by decide) (r_move hf rfl) fun a hf => ?_
    refine st_gex (b := false) hf rfl rfl rfl hb5 rfl (by decide) (r_lit (d := fI64) (xs := ([(a1.length : Int), (a2.length : Int)] : List Int)) (vs := [vI (a1.length : Int), vI (a2.length : Int)]) 3 Try.underlying36 el2 (Nat.le_of_ble_eq_true rfl) (Nat.le_of_ble_eq_true rfl) hw hf rfl rfl rfl) fun a v3 w hf hΦ => ?_
    obtain ⟨ρ, hw, hE, o3⟩ := hΦ
    replace o1 := o1.ext hE
    obtain ⟨x6, hx7, hF⟩ := of_bind hF
    refine st_gfn (b := false) 4 hw hf rfl rfl rfl hb5 rfl (by decide) (r_fn en63 hf rfl) (impl_isSize_ok o3.ro hx7) fun a v w ρ hf hw hE hN hΦ => ?_
    obtain rfl := hΦ
    replace o1 := o1.ext hE
    replace o3 := o3.ext hE
    refine st_g (b := false) hf rfl rfl rfl hb5 rfl (by decide) (r_not hf rfl) fun a hf => ?_
    refine s_ hf (r_pick (b := false) hf rfl hb5 rfl) fun a hf => ?_
    refine c_nil ⟨rfl, ?_⟩
    obtain rfl := Option.some.inj hF
    exact ⟨_, hw, hf.sub ⟨rfl, rfl, rfl, rfl, rfl, rfl, trivial⟩⟩
  rintro a w ⟨ρ, hw, hf⟩
  have hF := hG1
  refine n_then ?_
  rcases of_ite hF with ⟨hb8, hF⟩ | ⟨hb8, hF⟩
  · refine c_ift hf rfl hb8 <| c_seq <| c_region ?_
    have o5 : Ow (Kd.slice 2 (kf fI64)) 36 ρ w w0.heap.size 5 (.slice none 0 0) [] := Ow.nil _ _ _ _ _ _
    refine s_ hf (r_assign hf rfl) fun a hf => ?_
    refine s_ hf (r_assign hf rfl) fun a hf => ?_
    refine c_nt <| c_retc ?_
    obtain rfl := Option.some.inj hF
    refine r_then <| c_ret hf (res_tt Try.results19 hf rfl rfl) ?_
    exact ⟨_, rfl, hw.below, ⟨_, rfl, o5.out⟩⟩
  refine c_iff hf rfl hb8 <| c_skip <| n_then <| c_seq <| c_region ?_
  refine s_ hf (r_move hf rfl) fun a hf => ?_
  obtain ⟨hc9, hF⟩ := of_guard hF
  obtain ⟨ad10, c10, u10, he10, hl10, ho10⟩ := Ro.el_row h2 hc9.1 hc9.2
  refine s_ hf (r_idx Try.underlying24 sz36 hf rfl ⟨_, he10⟩ rfl hc9.1 hc9.2) fun a hf => ?_
  refine s_ hf (r_load_cell ty36 hf rfl (hl10.below hw.below)) fun a hf => ?_
  refine s_ hf (r_len Try.underlying36 (ho10.now hw) hf rfl) fun a hf => ?_
  refine s_ hf (r_assign hf rfl) fun a hf => ?_
  refine c_nt <| c_seq <| c_seq ?_
  obtain ⟨s12, hT11, hG11⟩ := of_bind hF
  clear hF
  refine c_meet (fun (s12 : Bool) a w => ∃ ρ, Wd w0 ρ w ∧ Fr 53 a [(0, vI a0), (1, va1), (2, va2), (48, .bool s12)]) s12 ?_ ?_
  · have hF := hT11
    refine c_region ?_
    refine s_ hf (r_move hf rfl) fun a hf => ?_
    refine sx_ hf (r_lit (d := fI64) (xs := ([((gl [] a2 (0 : Int)).length : Int)] : List Int)) (vs := [vI ((gl [] a2 (0 : Int)).length : Int)]) 6 Try.underlying36 el2 (Nat.le_of_ble_eq_true rfl) (Nat.le_of_ble_eq_true rfl) hw hf rfl rfl rfl) fun a v6 w hf hΦ => ?_
    obtain ⟨ρ, hw, hE, o6⟩ := hΦ
    obtain ⟨x13, hx14, hF⟩ := of_bind hF
    refine st_fn 7 hw hf rfl rfl (by decide) (r_fn en63 hf rfl) (impl_isSize_ok o6.ro hx14) fun a v w ρ hf hw hE hN hΦ => ?_
    obtain rfl := hΦ
    replace o6 := o6.ext hE
    refine s_ hf (r_not hf rfl) fun a hf => ?_
    refine s_ hf (r_move hf rfl) fun a hf => ?_
    rcases of_ite hF with ⟨hb15, hF⟩ | ⟨hb15, hF⟩
    · refine st_no (b := true) hf rfl rfl rfl hb15 rfl (by decide) fun a hf => ?_
      refine st_no (b := true) hf rfl rfl rfl hb15 rfl (by decide) fun a hf => ?_
      refine st_no (b := true) hf rfl rfl rfl hb15 rfl (by decide) fun a hf => ?_
      refine st_no (b := true) hf rfl rfl rfl hb15 rfl (by decide) fun a hf => ?_
      refine st_no (b := true) hf rfl rfl rfl hb15 rfl (by decide) fun a hf => ?_
      refine st_no (b := true) hf rfl rfl rfl hb15 rfl (by decide) fun a hf => ?_
      refine s_ hf (r_pick (b := true) hf rfl hb15 rfl) fun a hf => ?_
      refine s_ hf (r_move hf rfl) fun a hf => ?_
      refine st_no (b := true) hf rfl rfl rfl rfl rfl (by decide) fun a hf => ?_
      refine st_no (b := true) hf rfl rfl rfl rfl rfl (by decide) fun a hf => ?_
      refine st_no (b := true) hf rfl rfl rfl rfl rfl (by decide) fun a hf => ?_
      refine st_no (b := true) hf rfl rfl rfl rfl rfl (by decide) fun a hf => ?_
      refine st_no (b := true) hf rfl rfl rfl rfl rfl (by decide) fun a hf => ?_
      refine st_no (b := true) hf rfl rfl rfl rfl rfl (by decide) fun a hf => ?_
      refine s_ hf (r_pick (b := true) hf rfl rfl rfl) fun a hf => ?_
      refine c_nil ⟨rfl, ?_⟩
      obtain rfl := Option.some.inj hF
      exact ⟨_, hw, hf.sub ⟨rfl, rfl, rfl, rfl, trivial⟩⟩
    refine st_g (b := false) hf rfl rfl rfl hb15 rfl (by decide) (r_move hf rfl) fun a hf => ?_
    refine st_g (b := false) hf rfl rfl rfl hb15 rfl (by decide) (r_move hf rfl) fun a hf => ?_
    refine st_g (b := false) hf rfl rfl rfl hb15 rfl (by decide) (r_move hf rfl) fun a hf => ?_
    refine st_g (b := false) hf rfl rfl rfl hb15 rfl (by decide) (r_move hf rfl) fun a hf => ?_
    obtain ⟨x16, hx17, hF⟩ := of_bind hF
    refine st_gfn (b := false) 8 hw hf rfl rfl rfl hb15 rfl (by decide) (r_fn en67 hf rfl) (impl_isMatrix_ok (h1.now hw) hx17) fun a v w ρ hf hw hE hN hΦ => ?_
    obtain rfl := hΦ
    replace o6 := o6.ext hE
    refine st_g (b := false) hf rfl rfl rfl hb15 rfl (by decide) (r_not hf rfl) fun a hf => ?_
    refine s_ hf (r_pick (b := false) hf rfl hb15 rfl) fun a hf => ?_
    refine s_ hf (r_move hf rfl) fun a hf => ?_
    rcases of_ite hF with ⟨hb18, hF⟩ | ⟨hb18, hF⟩
    · refine st_no (b := true) hf rfl rfl rfl hb18 rfl (by decide) fun a hf => ?_
      refine st_no (b := true) hf rfl rfl rfl hb18 rfl (by decide) fun a hf => ?_
      refine st_no (b := true) hf rfl rfl rfl hb18 rfl (by decide) fun a hf => ?_
      refine st_no (b := true) hf rfl rfl rfl hb18 rfl (by decide) fun a hf => ?_
      refine st_no (b := true) hf rfl rfl rfl hb18 rfl (by decide) fun a hf => ?_
      refine st_no (b := true) hf rfl rfl rfl hb18 rfl (by decide) fun a hf => ?_
      refine s_ hf (r_pick (b := true) hf rfl hb18 rfl) fun a hf => ?_
      refine c_nil ⟨rfl, ?_⟩
      obtain rfl := Option.some.inj hF
      exact ⟨_, hw, hf.sub ⟨rfl, rfl, rfl, rfl, trivial⟩⟩
    refine st_g (b := false) hf rfl rfl rfl hb18 rfl (by decide) (r_move hf rfl) fun a hf => ?_
    refine st_g (b := false) hf rfl rfl rfl hb18 rfl (by decide) (r_move hf rfl) fun a hf => ?_
    refine st_g (b := false) hf rfl rfl rfl hb18 rfl (by decide) (r_move hf rfl) fun a hf => ?_
    refine st_g (b := false) hf rfl rfl rfl hb18 rfl (by decide) (r_move hf rfl) fun a hf => ?_
    obtain ⟨x19, hx20, hF⟩ := of_bind hF
    refine st_gfn (b := false) 9 hw hf rfl rfl rfl hb18 rfl (by decide) (r_fn en67 hf rfl) (impl_isMatrix_ok (h2.now hw) hx20) fun a v w ρ hf hw hE hN hΦ => ?_
    obtain rfl := hΦ
    replace o6 := o6.ext hE
    refine st_g (b := false) hf rfl rfl rfl hb18 rfl (by decide) (r_not hf rfl) fun a hf => ?_
    refine s_ hf (r_pick (b := false) hf rfl hb18 rfl) fun a hf => ?_
    refine c_nil ⟨rfl, ?_⟩
    obtain rfl := Option.some.inj hF
    exact ⟨_, hw, hf.sub ⟨rfl, rfl, rfl, rfl, trivial⟩⟩
  rintro a w ⟨ρ, hw, hf⟩
  have hF := hG11
  refine n_then ?_
  rcases of_ite hF with ⟨hb21, hF⟩ | ⟨hb21, hF⟩
  · refine c_ift hf rfl hb21 <| c_seq <| c_region ?_
    have o10 : Ow (Kd.slice 2 (kf fI64)) 36 ρ w w0.heap.size 10 (.slice none 0 0) [] := Ow.nil _ _ _ _ _ _
    refine s_ hf (r_assign hf rfl) fun a hf => ?_
    refine s_ hf (r_assign hf rfl) fun a hf => ?_
    refine c_nt <| c_retc ?_
    obtain rfl := Option.some.inj hF
    refine r_then <| c_ret hf (res_tt Try.results19 hf rfl rfl) ?_
    exact ⟨_, rfl, hw.below, ⟨_, rfl, o10.out⟩⟩
  refine c_iff hf rfl hb21 <| c_skip <| n_then <| c_seq <| c_region ?_
  refine s_ hf (r_move hf rfl) fun a hf => ?_
  refine s_ hf (r_move hf rfl) fun a hf => ?_
  refine s_ hf (r_move hf rfl) fun a hf => ?_
  obtain ⟨x22, hx23, hF⟩ := of_bind hF
  refine st_fn 11 hw hf rfl rfl (by decide) (r_fn en68 hf rfl) (impl_multiply_ok (h1.now hw) (h2.now hw) hx23) fun a v w ρ hf hw hE hN hΦ => ?_
  obtain ⟨u24, rfl, hr25⟩ := hΦ
  have o11 := hN hr25
  refine s_ hf (r_assign hf rfl) fun a hf => ?_
  refine s_ hf (r_assign hf rfl) fun a hf => ?_
  refine c_nt <| c_retc ?_
  obtain rfl := Option.some.inj hF
  refine c_ret hf (res_tt Try.results19 hf rfl rfl) ?_
  exact ⟨_, rfl, hw.below, ⟨_, rfl, o11.out⟩⟩
/-! f9 -/
noncomputable def laws_big (a0 : List UInt8) : Option Bool :=
  some (decide (4096 < (a0.length : Int)))
theorem laws_big_ok {w0 : World} {a0 : List UInt8} {va0 : Value} (h0 : Ro (kf fU8) w0 va0 a0) {r : Bool} (hF : laws_big a0 = some r) :
    Calls Try.prog 9 [va0].toArray w0 fun e w => ∃ v, e = .returned v ∧ Below w0.heap.size w0 w ∧ .bool r = v := by
  refine calls_of (k := 6) Try.func9 rfl rfl (Nat.le_of_ble_eq_true rfl) fun a hf => ?_
  replace hf : Fr 6 a [(0, va0)] := hf
  refine c_start fun w ρ hw => ?_
  unfold laws_big at hF
  refine c_seq <| c_region ?_
  refine s_ hf (r_assign hf rfl) fun a hf => ?_
  refine c_nt <| c_seq <| c_region ?_
  refine s_ hf (r_move hf rfl) fun a hf => ?_
  refine s_ hf (r_len Try.underlying22 (h0.now hw) hf rfl) fun a hf => ?_
  refine s_ hf (r_gtr hf rfl rfl) fun a hf => ?_
  refine s_ hf (r_assign hf rfl) fun a hf => ?_
  refine c_nt <| c_retc ?_
  obtain rfl := Option.some.inj hF
  refine c_ret hf (res_tmp Try.results9 hf rfl) ?_
  exact ⟨_, rfl, hw.below, rfl⟩
/-! f3 -/
noncomputable def laws_FnSquares_l68 (x54 : List (List Int) × Int) (s66 : Int) (s69 : Int) : Option (LR Int Bool) :=
  if (decide (s69 < (x54.1.length : Int))) = true then ((if 0 ≤ s66 ∧ s66 < (x54.1.length : Int) then (if 0 ≤ s69 ∧ s69 < ((gl [] x54.1 s66).length : Int) then (if (decide ((gl 0 (gl [] x54.1 s66) s69) ≠ 0)) = true then (if (decide (s66 ≠ s69)) = true then (some true) else (if (decide (s66 = s69)) = true then (some (decide ((gl 0 (gl [] x54.1 s66) s69) ≠ 1))) else (some false))) else (if (decide (s66 = s69)) = true then (some (decide ((gl 0 (gl [] x54.1 s66) s69) ≠ 1))) else (some false))) else none) else none).bind fun (s72 : Bool) => if s72 = true then (some (.ret false)) else (some (.next (w64 (s69 + 1))))) else (some (.stop s69))
noncomputable def laws_FnSquares_l65 (x54 : List (List Int) × Int) (s66 : Int) : Option (LR Int Bool) :=
  if (decide (s66 < (x54.1.length : Int))) = true then ((iter (fun s => laws_FnSquares_l68 x54 s66 s) 0).bind fun o => match o with | .stop s69 => (some (.next (w64 (s66 + 1)))) | .ret r => some (.ret r) | .next _ => none) else (some (.stop s66))
noncomputable def laws_FnSquares (a0 : List UInt8) : Option Bool :=
  (laws_big a0).bind fun x1 => if x1 = true then (some (true)) else ((spec_DrawInverseSquare a0).bind fun x4 => (impl_InverseSquare x4.1 x4.2).bind fun x8 => (spec_InverseSquare x4.1 x4.2).bind fun x12 => (if (decide (x8.2 ≠ x12.2)) = true then (some true) else ((laws_lists9 x8.1 x12.1).bind fun x19 => some (!x19))).bind fun (s17 : Bool) => if s17 = true then (some (false)) else ((impl_IsInvertible x4.1 x4.2).bind fun x22 => (spec_IsInvertible x4.1 x4.2).bind fun x24 => (if (decide (x22.2 ≠ x24.2)) = true then (some true) else (some (x22.1 != x24.1))).bind fun (s27 : Bool) => if s27 = true then (some (false)) else ((spec_DrawCountInvertible a0).bind fun x30 => (impl_CountInvertible x30.1 x30.2).bind fun x32 => (spec_CountInvertible x30.1 x30.2).bind fun x34 => (if (decide (x32.2 ≠ x34.2)) = true then (some true) else (some (decide (x32.1 ≠ x34.1)))).bind fun (s37 : Bool) => if s37 = true then (some (false)) else ((if (decide (x32.2 = 0)) = true then (if (decide (x30.2 = 1)) = true then (some (decide (x32.1 ≠ (w64 (x30.1 - 1))))) else (some false)) else (some false)).bind fun (s41 : Bool) => if s41 = true then (some (false)) else ((if (decide (x22.2 = 0)) = true then (some (x22.1 != (decide (x8.2 = 0)))) else (some false)).bind fun (s46 : Bool) => if s46 = true then (some (false)) else (if (decide (x8.2 ≠ 0)) = true then (some (decide ((x8.1.length : Int) = 0))) else ((impl_InverseSquare x4.1 x8.1).bind fun x50 => (impl_PlainProduct x4.1 x4.2 x8.1).bind fun x54 => (if (decide (x50.2 ≠ 0)) = true then (some true) else ((laws_lists9 x50.1 x4.2).bind fun x61 => if (!x61) = true then (some true) else (some (decide (x54.2 ≠ 0))))).bind fun (s59 : Bool) => if s59 = true then (some (false)) else ((iter (fun s => laws_FnSquares_l65 x54 s) 0).bind fun o => match o with | .stop s66 => (some (true)) | .ret r => some r | .next _ => none))))))))
theorem laws_FnSquares_ok {w0 : World} {a0 : List UInt8} {va0 : Value} (h0 : Ro (kf fU8) w0 va0 a0) {r : Bool} (hF : laws_FnSquares a0 = some r) :
    Calls Try.prog 3 [va0].toArray w0 fun e w => ∃ v, e = .returned v ∧ Below w0.heap.size w0 w ∧ .bool r = v := by
  refine calls_of (k := 188) Try.func3 rfl rfl (Nat.le_of_ble_eq_true rfl) fun a hf => ?_
  replace hf : Fr 188 a [(0, va0)] := hf
  refine c_start fun w ρ hw => ?_
  unfold laws_FnSquares at hF
  refine c_seq <| c_region ?_
  refine s_ hf (r_assign hf rfl) fun a hf => ?_
  refine c_nt <| c_seq <| c_seq <| c_region ?_
  refine s_ hf (r_move hf rfl) fun a hf => ?_
  obtain ⟨x1, hx2, hF⟩ := of_bind hF
  refine st_fn 1 hw hf rfl rfl (by decide) (r_fn en9 hf rfl) (laws_big_ok (h0.now hw) hx2) fun a v w ρ hf hw hE hN hΦ => ?_
  obtain rfl := hΦ
  refine c_nt ?_
  rcases of_ite hF with ⟨hb3, hF⟩ | ⟨hb3, hF⟩
  · refine c_ift hf rfl hb3 <| c_seq <| c_region ?_
    refine s_ hf (r_assign hf rfl) fun a hf => ?_
    refine c_nt <| c_retc ?_
    obtain rfl := Option.some.inj hF
    refine r_then <| c_ret hf (res_tmp Try.results3 hf rfl) ?_
    exact ⟨_, rfl, hw.below, rfl⟩
  refine c_iff hf rfl hb3 <| c_skip <| n_then <| c_seq <| c_region ?_
  refine s_ hf (r_move hf rfl) fun a hf => ?_
  obtain ⟨x4, hx5, hF⟩ := of_bind hF
  refine st_fn 2 hw hf rfl rfl (by decide) (r_fn en10 hf rfl) (spec_DrawInverseSquare_ok (h0.now hw) hx5) fun a v w ρ hf hw hE hN hΦ => ?_
  obtain ⟨u6, rfl, hr7⟩ := hΦ
  have o2 := hr7
  refine s_ hf (r_move hf rfl) fun a hf => ?_
  refine s_ hf (r_extract hf rfl rfl) fun a hf => ?_
  refine s_ hf (r_extract hf rfl rfl) fun a hf => ?_
  refine s_ hf (r_assign hf rfl) fun a hf => ?_
  refine s_ hf (r_assign hf rfl) fun a hf => ?_
  refine c_nt <| c_seq <| c_region ?_
  refine s_ hf (r_move hf rfl) fun a hf => ?_
  refine s_ hf (r_move hf rfl) fun a hf => ?_
  obtain ⟨x8, hx9, hF⟩ := of_bind hF
  refine st_fn 3 hw hf rfl rfl (by decide) (r_fn en11 hf rfl) (impl_InverseSquare_ok o2 hx9) fun a v w ρ hf hw hE hN hΦ => ?_
  obtain ⟨u10, rfl, hr11⟩ := hΦ
  replace o2 := o2.ext hE
  have o3 := hN hr11
  refine s_ hf (r_move hf rfl) fun a hf => ?_
  refine s_ hf (r_extract hf rfl rfl) fun a hf => ?_
  refine s_ hf (r_extract hf rfl rfl) fun a hf => ?_
  refine s_ hf (r_assign hf rfl) fun a hf => ?_
  refine s_ hf (r_assign hf rfl) fun a hf => ?_
  refine c_nt <| c_seq <| c_seq <| c_region ?_
  refine s_ hf (r_move hf rfl) fun a hf => ?_
  refine s_ hf (r_move hf rfl) fun a hf => ?_
  obtain ⟨x12, hx13, hF⟩ := of_bind hF
  refine st_fn 4 hw hf rfl rfl (by decide) (r_fn en12 hf rfl) (spec_InverseSquare_ok o2 hx13) fun a v w ρ hf hw hE hN hΦ => ?_
  obtain ⟨u14, rfl, hr15⟩ := hΦ
  replace o2 := o2.ext hE
  replace o3 := o3.ext hE
  have o4 := hN hr15
  refine s_ hf (r_move hf rfl) fun a hf => ?_
  refine s_ hf (r_extract hf rfl rfl) fun a hf => ?_
  refine s_ hf (r_extract hf rfl rfl) fun a hf => ?_
  refine s_ hf (r_assign hf rfl) fun a hf => ?_
  refine s_ hf (r_assign hf rfl) fun a hf => ?_
  refine c_nt <| c_seq ?_
  obtain ⟨s17, hT16, hG16⟩ := of_bind hF
  clear hF
  refine c_meet (fun (s17 : Bool) a w => ∃ ρ, Wd w0 ρ w ∧ Fr 188 a [(0, va0), (3, vI x4.1), (4, u6), (5, u10), (6, vI x8.2), (52, .bool s17)] ∧ Ro (Kd.slice 2 (kf fI64)) w u6 x4.2 ∧ O36 ρ w w0 3 u10 x8.1) s17 ?_ ?_
  · have hF := hT16
    refine c_region ?_
    refine s_ hf (r_move hf rfl) fun a hf => ?_
    refine s_ hf (r_move hf rfl) fun a hf => ?_
    refine s_ hf (r_neq hf rfl rfl) fun a hf => ?_
    refine s_ hf (r_move hf rfl) fun a hf => ?_
    rcases of_ite hF with ⟨hb18, hF⟩ | ⟨hb18, hF⟩
    · refine st_no (b := true) hf rfl rfl rfl hb18 rfl (by decide) fun a hf => ?_
      refine st_no (b := true) hf rfl rfl rfl hb18 rfl (by decide) fun a hf => ?_
      refine st_no (b := true) hf rfl rfl rfl hb18 rfl (by decide) fun a hf => ?_
      refine st_no (b := true) hf rfl rfl rfl hb18 rfl (by decide) fun a hf => ?_
      refine s_ hf (r_pick (b := true) hf rfl hb18 rfl) fun a hf => ?_
      refine c_nil ⟨rfl, ?_⟩
      obtain rfl := Option.some.inj hF
      exact ⟨_, hw, hf.sub ⟨rfl, rfl, rfl, rfl, rfl, rfl, trivial⟩, o2, o3⟩
    refine st_g (b := false) hf rfl rfl rfl hb18 rfl (by decide) (r_move hf rfl) fun a hf => ?_
    refine st_g (b := false) hf rfl rfl rfl hb18 rfl (by decide) (r_move hf rfl) fun a hf => ?_
    obtain ⟨x19, hx20, hF⟩ := of_bind hF
    refine st_gfn (b := false) 5 hw hf rfl rfl rfl hb18 rfl (by decide) (r_fn en13 hf rfl) (laws_lists9_ok o3.ro o4.ro hx20) fun a v w ρ hf hw hE hN hΦ => ?_
    obtain rfl := hΦ
    replace o2 := o2.ext hE
    replace o3 := o3.ext hE
    replace o4 := o4.ext hE
    refine st_g (b := false) hf rfl rfl rfl hb18 rfl (by decide) (r_not hf rfl) fun a hf => ?_
    refine s_ hf (r_pick (b := false) hf rfl hb18 rfl) fun a hf => ?_
    refine c_nil ⟨rfl, ?_⟩
    obtain rfl := Option.some.inj hF
    exact ⟨_, hw, hf.sub ⟨rfl, rfl, rfl, rfl, rfl, rfl, trivial⟩, o2, o3⟩
  rintro a w ⟨ρ, hw, hf, o2, o3⟩
  have hF := hG16
  refine n_then ?_
  rcases of_ite hF with ⟨hb21, hF⟩ | ⟨hb21, hF⟩
  · refine c_ift hf rfl hb21 <| c_seq <| c_region ?_
    refine s_ hf (r_assign hf rfl) fun a hf => ?_
    refine c_nt <| c_retc ?_
    obtain rfl := Option.some.inj hF
    refine r_then <| c_ret hf (res_tmp Try.results3 hf rfl) ?_
    exact ⟨_, rfl, hw.below, rfl⟩
  refine c_iff hf rfl hb21 <| c_skip <| n_then <| c_seq <| c_region ?_
  refine s_ hf (r_move hf rfl) fun a hf => ?_
  refine s_ hf (r_move hf rfl) fun a hf => ?_
  obtain ⟨x22, hx23, hF⟩ := of_bind hF
  refine st_fn 6 hw hf rfl rfl (by decide) (r_fn en14 hf rfl) (impl_IsInvertible_ok o2 hx23) fun a v w ρ hf hw hE hN hΦ => ?_
  obtain rfl := hΦ
  replace o2 := o2.ext hE
  replace o3 := o3.ext hE
  refine s_ hf (r_move hf rfl) fun a hf => ?_
  refine s_ hf (r_extract hf rfl rfl) fun a hf => ?_
  refine s_ hf (r_extract hf rfl rfl) fun a hf => ?_
  refine s_ hf (r_assign hf rfl) fun a hf => ?_
  refine s_ hf (r_assign hf rfl) fun a hf => ?_
  refine c_nt <| c_seq <| c_seq <| c_region ?_
  refine s_ hf (r_move hf rfl) fun a hf => ?_
  refine s_ hf (r_move hf rfl) fun a hf => ?_
  obtain ⟨x24, hx25, hF⟩ := of_bind hF
  refine st_fn 7 hw hf rfl rfl (by decide) (r_fn en15 hf rfl) (spec_IsInvertible_ok o2 hx25) fun a v w ρ hf hw hE hN hΦ => ?_
  obtain rfl := hΦ
  replace o2 := o2.ext hE
  replace o3 := o3.ext hE
  refine s_ hf (r_move hf rfl) fun a hf => ?_
  refine s_ hf (r_extract hf rfl rfl) fun a hf => ?_
  refine s_ hf (r_extract hf rfl rfl) fun a hf => ?_
  refine s_ hf (r_assign hf rfl) fun a hf => ?_
  refine s_ hf (r_assign hf rfl) fun a hf => ?_
  refine c_nt <| c_seq ?_
  obtain ⟨s27, hT26, hG26⟩ := of_bind hF
  clear hF
  refine c_meet (fun (s27 : Bool) a w => ∃ ρ, Wd w0 ρ w ∧ Fr 188 a [(0, va0), (3, vI x4.1), (4, u6), (5, u10), (6, vI x8.2), (9, .bool x22.1), (10, vI x22.2), (72, .bool s27)] ∧ Ro (Kd.slice 2 (kf fI64)) w u6 x4.2 ∧ O36 ρ w w0 3 u10 x8.1) s27 ?_ ?_
  · have hF := hT26
    refine c_region ?_
    refine s_ hf (r_move hf rfl) fun a hf => ?_
    refine s_ hf (r_move hf rfl) fun a hf => ?_
    refine s_ hf (r_neq hf rfl rfl) fun a hf => ?_
    refine s_ hf (r_move hf rfl) fun a hf => ?_
    rcases of_ite hF with ⟨hb28, hF⟩ | ⟨hb28, hF⟩
    · refine st_no (b := true) hf rfl rfl rfl hb28 rfl (by decide) fun a hf => ?_
      refine st_no (b := true) hf rfl rfl rfl hb28 rfl (by decide) fun a hf => ?_
      refine st_no (b := true) hf rfl rfl rfl hb28 rfl (by decide) fun a hf => ?_
      refine s_ hf (r_pick (b := true) hf rfl hb28 rfl) fun a hf => ?_
      refine c_nil ⟨rfl, ?_⟩
      obtain rfl := Option.some.inj hF
      exact ⟨_, hw, hf.sub ⟨rfl, rfl, rfl, rfl, rfl, rfl, rfl, rfl, trivial⟩, o2, o3⟩
    refine st_g (b := false) hf rfl rfl rfl hb28 rfl (by decide) (r_move hf rfl) fun a hf => ?_
    refine st_g (b := false) hf rfl rfl rfl hb28 rfl (by decide) (r_move hf rfl) fun a hf => ?_
    refine st_g (b := false) hf rfl rfl rfl hb28 rfl (by decide) (r_neqb Try.underlying4 hf rfl rfl) fun a hf => ?_
    refine s_ hf (r_pick (b := false) hf rfl hb28 rfl) fun a hf => ?_
    refine c_nil ⟨rfl, ?_⟩
    obtain rfl := Option.some.inj hF
    exact ⟨_, hw, hf.sub ⟨rfl, rfl, rfl, rfl, rfl, rfl, rfl, rfl, trivial⟩, o2, o3⟩
  rintro a w ⟨ρ, hw, hf, o2, o3⟩
  have hF := hG26
  refine n_then ?_
  rcases of_ite hF with ⟨hb29, hF⟩ | ⟨hb29, hF⟩
  · refine c_ift hf rfl hb29 <| c_seq <| c_region ?_
    refine s_ hf (r_assign hf rfl) fun a hf => ?_
    refine c_nt <| c_retc ?_
    obtain rfl := Option.some.inj hF
    refine r_then <| c_ret hf (res_tmp Try.results3 hf rfl) ?_
    exact ⟨_, rfl, hw.below, rfl⟩
  refine c_iff hf rfl hb29 <| c_skip <| n_then <| c_seq <| c_region ?_
  refine s_ hf (r_move hf rfl) fun a hf => ?_
  obtain ⟨x30, hx31, hF⟩ := of_bind hF
  refine st_fn 8 hw hf rfl rfl (by decide) (r_fn en16 hf rfl) (spec_DrawCountInvertible_ok (h0.now hw) hx31) fun a v w ρ hf hw hE hN hΦ => ?_
  obtain rfl := hΦ
  replace o2 := o2.ext hE
  replace o3 := o3.ext hE
  refine s_ hf (r_move hf rfl) fun a hf => ?_
  refine s_ hf (r_extract hf rfl rfl) fun a hf => ?_
  refine s_ hf (r_extract hf rfl rfl) fun a hf => ?_
  refine s_ hf (r_assign hf rfl) fun a hf => ?_
  refine s_ hf (r_assign hf rfl) fun a hf => ?_
  refine c_nt <| c_seq <| c_region ?_
  refine s_ hf (r_move hf rfl) fun a hf => ?_
  refine s_ hf (r_move hf rfl) fun a hf => ?_
  obtain ⟨x32, hx33, hF⟩ := of_bind hF
  refine st_fn 9 hw hf rfl rfl (by decide) (r_fn en17 hf rfl) (impl_CountInvertible_ok  hx33) fun a v w ρ hf hw hE hN hΦ => ?_
  obtain rfl := hΦ
  replace o2 := o2.ext hE
  replace o3 := o3.ext hE
  refine s_ hf (r_move hf rfl) fun a hf => ?_
  refine s_ hf (r_extract hf rfl rfl) fun a hf => ?_
  refine s_ hf (r_extract hf rfl rfl) fun a hf => ?_
  refine s_ hf (r_assign hf rfl) fun a hf => ?_
  refine s_ hf (r_assign hf rfl) fun a hf => ?_
  refine c_nt <| c_seq <| c_seq <| c_region ?_
  refine s_ hf (r_move hf rfl) fun a hf => ?_
  refine s_ hf (r_move hf rfl) fun a hf => ?_
  obtain ⟨x34, hx35, hF⟩ := of_bind hF
  refine st_fn 10 hw hf rfl rfl (by decide) (r_fn en18 hf rfl) (spec_CountInvertible_ok  hx35) fun a v w ρ hf hw hE hN hΦ => ?_
  obtain rfl := hΦ
  replace o2 := o2.ext hE
  replace o3 := o3.ext hE
  refine s_ hf (r_move hf rfl) fun a hf => ?_
  refine s_ hf (r_extract hf rfl rfl) fun a hf => ?_
  refine s_ hf (r_extract hf rfl rfl) fun a hf => ?_
  refine s_ hf (r_assign hf rfl) fun a hf => ?_
  refine s_ hf (r_assign hf rfl) fun a hf => ?_
  refine c_nt <| c_seq ?_
  obtain ⟨s37, hT36, hG36⟩ := of_bind hF
  clear hF
  refine c_meet (fun (s37 : Bool) a w => ∃ ρ, Wd w0 ρ w ∧ Fr 188 a [(3, vI x4.1), (4, u6), (5, u10), (6, vI x8.2), (9, .bool x22.1), (10, vI x22.2), (13, vI x30.1), (14, vI x30.2), (15, vI x32.1), (16, vI x32.2), (97, .bool s37)] ∧ Ro (Kd.slice 2 (kf fI64)) w u6 x4.2 ∧ O36 ρ w w0 3 u10 x8.1) s37 ?_ ?_
  · have hF := hT36
    refine c_region ?_
    refine s_ hf (r_move hf rfl) fun a hf => ?_
    refine s_ hf (r_move hf rfl) fun a hf => ?_
    refine s_ hf (r_neq hf rfl rfl) fun a hf => ?_
    refine s_ hf (r_move hf rfl) fun a hf => ?_
    rcases of_ite hF with ⟨hb38, hF⟩ | ⟨hb38, hF⟩
    · refine st_no (b := true) hf rfl rfl rfl hb38 rfl (by decide) fun a hf => ?_
      refine st_no (b := true) hf rfl rfl rfl hb38 rfl (by decide) fun a hf => ?_
      refine st_no (b := true) hf rfl rfl rfl hb38 rfl (by decide) fun a hf => ?_
      refine s_ hf (r_pick (b := true) hf rfl hb38 rfl) fun a hf => ?_
      refine c_nil ⟨rfl, ?_⟩
      obtain rfl := Option.some.inj hF
      exact ⟨_, hw, hf.sub ⟨rfl, rfl, rfl, rfl, rfl, rfl, rfl, rfl, rfl, rfl, rfl, trivial⟩, o2, o3⟩
    refine st_g (b := false) hf rfl rfl rfl hb38 rfl (by decide) (r_move hf rfl) fun a hf => ?_
    refine st_g (b := false) hf rfl rfl rfl hb38 rfl (by decide) (r_move hf rfl) fun a hf => ?_
    refine st_g (b := false) hf rfl rfl rfl hb38 rfl (by decide) (r_neq hf rfl rfl) fun a hf => ?_
    refine s_ hf (r_pick (b := false) hf rfl hb38 rfl) fun a hf => ?_
    refine c_nil ⟨rfl, ?_⟩
    obtain rfl := Option.some.inj hF
    exact ⟨_, hw, hf.sub ⟨rfl, rfl, rfl, rfl, rfl, rfl, rfl, rfl, rfl, rfl, rfl, trivial⟩, o2, o3⟩
  rintro a w ⟨ρ, hw, hf, o2, o3⟩
  have hF := hG36
  refine n_then ?_
  rcases of_ite hF with ⟨hb39, hF⟩ | ⟨hb39, hF⟩
  · refine c_ift hf rfl hb39 <| c_seq <| c_region ?_
    refine s_ hf (r_assign hf rfl) fun a hf => ?_
    refine c_nt <| c_retc ?_
    obtain rfl := Option.some.inj hF
    refine r_then <| c_ret hf (res_tmp Try.results3 hf rfl) ?_
    exact ⟨_, rfl, hw.below, rfl⟩
  refine c_iff hf rfl hb39 <| c_skip <| n_then <| c_seq <| c_seq ?_
  obtain ⟨s41, hT40, hG40⟩ := of_bind hF
  clear hF
  refine c_meet (fun (s41 : Bool) a w => ∃ ρ, Wd w0 ρ w ∧ Fr 188 a [(3, vI x4.1), (4, u6), (5, u10), (6, vI x8.2), (9, .bool x22.1), (10, vI x22.2), (109, .bool s41)] ∧ Ro (Kd.slice 2 (kf fI64)) w u6 x4.2 ∧ O36 ρ w w0 3 u10 x8.1) s41 ?_ ?_
  · have hF := hT40
    refine c_region ?_
    refine s_ hf (r_move hf rfl) fun a hf => ?_
    refine s_ hf (r_eql hf rfl rfl) fun a hf => ?_
    refine s_ hf (r_move hf rfl) fun a hf => ?_
    rcases of_ite hF with ⟨hb42, hF⟩ | ⟨hb42, hF⟩
    rotate_left
    · refine st_no (b := false) hf rfl rfl rfl hb42 rfl (by decide) fun a hf => ?_
      refine st_no (b := false) hf rfl rfl rfl hb42 rfl (by decide) fun a hf => ?_
      refine s_ hf (r_pick (b := false) hf rfl hb42 rfl) fun a hf => ?_
      refine s_ hf (r_move hf rfl) fun a hf => ?_
      refine st_no (b := false) hf rfl rfl rfl rfl rfl (by decide) fun a hf => ?_
      refine st_no (b := false) hf rfl rfl rfl rfl rfl (by decide) fun a hf => ?_
      refine st_no (b := false) hf rfl rfl rfl rfl rfl (by decide) fun a hf => ?_
      refine st_no (b := false) hf rfl rfl rfl rfl rfl (by decide) fun a hf => ?_
      refine s_ hf (r_pick (b := false) hf rfl rfl rfl) fun a hf => ?_
      refine c_nil ⟨rfl, ?_⟩
      obtain rfl := Option.some.inj hF
      exact ⟨_, hw, hf.sub ⟨rfl, rfl, rfl, rfl, rfl, rfl, rfl, trivial⟩, o2, o3⟩
    refine st_g (b := true) hf rfl rfl rfl hb42 rfl (by decide) (r_move hf rfl) fun a hf => ?_
    refine st_g (b := true) hf rfl rfl rfl hb42 rfl (by decide) (r_eql hf rfl rfl) fun a hf => ?_
    refine s_ hf (r_pick (b := true) hf rfl hb42 rfl) fun a hf => ?_
    refine s_ hf (r_move hf rfl) fun a hf => ?_
    rcases of_ite hF with ⟨hb43, hF⟩ | ⟨hb43, hF⟩
    rotate_left
    · refine st_no (b := false) hf rfl rfl rfl hb43 rfl (by decide) fun a hf => ?_
      refine st_no (b := false) hf rfl rfl rfl hb43 rfl (by decide) fun a hf => ?_
      refine st_no (b := false) hf rfl rfl rfl hb43 rfl (by decide) fun a hf => ?_
      refine st_no (b := false) hf rfl rfl rfl hb43 rfl (by decide) fun a hf => ?_
      refine s_ hf (r_pick (b := false) hf rfl hb43 rfl) fun a hf => ?_
      refine c_nil ⟨rfl, ?_⟩
      obtain rfl := Option.some.inj hF
      exact ⟨_, hw, hf.sub ⟨rfl, rfl, rfl, rfl, rfl, rfl, rfl, trivial⟩, o2, o3⟩
    refine st_g (b := true) hf rfl rfl rfl hb43 rfl (by decide) (r_move hf rfl) fun a hf => ?_
    refine st_g (b := true) hf rfl rfl rfl hb43 rfl (by decide) (r_move hf rfl) fun a hf => ?_
    refine st_g (b := true) hf rfl rfl rfl hb43 rfl (by decide) (r_sub hf rfl rfl) fun a hf => ?_
    refine st_g (b := true) hf rfl rfl rfl hb43 rfl (by decide) (r_neq hf rfl rfl) fun a hf => ?_
    refine s_ hf (r_pick (b := true) hf rfl hb43 rfl) fun a hf => ?_
    refine c_nil ⟨rfl, ?_⟩
    obtain rfl := Option.some.inj hF
    exact ⟨_, hw, hf.sub ⟨rfl, rfl, rfl, rfl, rfl, rfl, rfl, trivial⟩, o2, o3⟩
  rintro a w ⟨ρ, hw, hf, o2, o3⟩
  have hF := hG40
  refine n_then ?_
  rcases of_ite hF with ⟨hb44, hF⟩ | ⟨hb44, hF⟩
  · refine c_ift hf rfl hb44 <| c_seq <| c_region ?_
    refine s_ hf (r_assign hf rfl) fun a hf => ?_
    refine c_nt <| c_retc ?_
    obtain rfl := Option.some.inj hF
    refine r_then <| c_ret hf (res_tmp Try.results3 hf rfl) ?_
    exact ⟨_, rfl, hw.below, rfl⟩
  refine c_iff hf rfl hb44 <| c_skip <| n_then <| c_seq <| c_seq ?_
  obtain ⟨s46, hT45, hG45⟩ := of_bind hF
  clear hF
  refine c_meet (fun (s46 : Bool) a w => ∃ ρ, Wd w0 ρ w ∧ Fr 188 a [(3, vI x4.1), (4, u6), (5, u10), (6, vI x8.2), (117, .bool s46)] ∧ Ro (Kd.slice 2 (kf fI64)) w u6 x4.2 ∧ O36 ρ w w0 3 u10 x8.1) s46 ?_ ?_
  · have hF := hT45
    refine c_region ?_
    refine s_ hf (r_move hf rfl) fun a hf => ?_
    refine s_ hf (r_eql hf rfl rfl) fun a hf => ?_
    refine s_ hf (r_move hf rfl) fun a hf => ?_
    rcases of_ite hF with ⟨hb47, hF⟩ | ⟨hb47, hF⟩
    rotate_left
    · refine st_no (b := false) hf rfl rfl rfl hb47 rfl (by decide) fun a hf => ?_
      refine st_no (b := false) hf rfl rfl rfl hb47 rfl (by decide) fun a hf => ?_
      refine st_no (b := false) hf rfl rfl rfl hb47 rfl (by decide) fun a hf => ?_
      refine st_no (b := false) hf rfl rfl rfl hb47 rfl (by decide) fun a hf => ?_
      refine s_ hf (r_pick (b := false) hf rfl hb47 rfl) fun a hf => ?_
      refine c_nil ⟨rfl, ?_⟩
      obtain rfl := Option.some.inj hF
      exact ⟨_, hw, hf.sub ⟨rfl, rfl, rfl, rfl, rfl, trivial⟩, o2, o3⟩
    refine st_g (b := true) hf rfl rfl rfl hb47 rfl (by decide) (r_move hf rfl) fun a hf => ?_
    refine st_g (b := true) hf rfl rfl rfl hb47 rfl (by decide) (r_move hf rfl) fun a hf => ?_
    refine st_g (b := true) hf rfl rfl rfl hb47 rfl (by decide) (r_eql hf rfl rfl) fun a hf => ?_
    refine st_g (b := true) hf rfl rfl rfl hb47 rfl (by decide) (r_neqb Try.underlying4 hf rfl rfl) fun a hf => ?_
    refine s_ hf (r_pick (b := true) hf rfl hb47 rfl) fun a hf => ?_
    refine c_nil ⟨rfl, ?_⟩
    obtain rfl := Option.some.inj hF
    exact ⟨_, hw, hf.sub ⟨rfl, rfl, rfl, rfl, rfl, trivial⟩, o2, o3⟩
  rintro a w ⟨ρ, hw, hf, o2, o3⟩
  have hF := hG45
  refine n_then ?_
  rcases of_ite hF with ⟨hb48, hF⟩ | ⟨hb48, hF⟩
  · refine c_ift hf rfl hb48 <| c_seq <| c_region ?_
    refine s_ hf (r_assign hf rfl) fun a hf => ?_
    refine c_nt <| c_retc ?_
    obtain rfl := Option.some.inj hF
    refine r_then <| c_ret hf (res_tmp Try.results3 hf rfl) ?_
    exact ⟨_, rfl, hw.below, rfl⟩
  refine c_iff hf rfl hb48 <| c_skip <| n_then <| c_seq <| c_seq <| c_region ?_
  refine s_ hf (r_move hf rfl) fun a hf => ?_
  refine s_ hf (r_neq hf rfl rfl) fun a hf => ?_
  refine c_nt ?_
  rcases of_ite hF with ⟨hb49, hF⟩ | ⟨hb49, hF⟩
  · refine c_ift hf rfl hb49 <| c_seq <| c_region ?_
    refine s_ hf (r_move hf rfl) fun a hf => ?_
    refine s_ hf (r_len Try.underlying24 o3.ro hf rfl) fun a hf => ?_
    refine s_ hf (r_eql hf rfl rfl) fun a hf => ?_
    refine s_ hf (r_assign hf rfl) fun a hf => ?_
    refine c_nt <| c_retc ?_
    obtain rfl := Option.some.inj hF
    refine r_then <| c_ret hf (res_tmp Try.results3 hf rfl) ?_
    exact ⟨_, rfl, hw.below, rfl⟩
  refine c_iff hf rfl hb49 <| c_skip <| n_then <| c_seq <| c_region ?_
  refine s_ hf (r_move hf rfl) fun a hf => ?_
  refine s_ hf (r_move hf rfl) fun a hf => ?_
  obtain ⟨x50, hx51, hF⟩ := of_bind hF
  refine st_fn 11 hw hf rfl rfl (by decide) (r_fn en11 hf rfl) (impl_InverseSquare_ok o3.ro hx51) fun a v w ρ hf hw hE hN hΦ => ?_
  obtain ⟨u52, rfl, hr53⟩ := hΦ
  replace o2 := o2.ext hE
  replace o3 := o3.ext hE
  have o11 := hN hr53
  refine s_ hf (r_move hf rfl) fun a hf => ?_
  refine s_ hf (r_extract hf rfl rfl) fun a hf => ?_
  refine s_ hf (r_extract hf rfl rfl) fun a hf => ?_
  refine s_ hf (r_assign hf rfl) fun a hf => ?_
  refine s_ hf (r_assign hf rfl) fun a hf => ?_
  refine c_nt <| c_seq <| c_region ?_
  refine s_ hf (r_move hf rfl) fun a hf => ?_
  refine s_ hf (r_move hf rfl) fun a hf => ?_
  refine s_ hf (r_move hf rfl) fun a hf => ?_
  obtain ⟨x54, hx55, hF⟩ := of_bind hF
  refine st_fn 12 hw hf rfl rfl (by decide) (r_fn en19 hf rfl) (impl_PlainProduct_ok o2 o3.ro hx55) fun a v w ρ hf hw hE hN hΦ => ?_
  obtain ⟨u56, rfl, hr57⟩ := hΦ
  replace o2 := o2.ext hE
  replace o3 := o3.ext hE
  replace o11 := o11.ext hE
  have o12 := hN hr57
  refine s_ hf (r_move hf rfl) fun a hf => ?_
  refine s_ hf (r_extract hf rfl rfl) fun a hf => ?_
  refine s_ hf (r_extract hf rfl rfl) fun a hf => ?_
  refine s_ hf (r_assign hf rfl) fun a hf => ?_
  refine s_ hf (r_assign hf rfl) fun a hf => ?_
  refine c_nt <| c_seq <| c_seq ?_
  obtain ⟨s59, hT58, hG58⟩ := of_bind hF
  clear hF
  refine c_meet (fun (s59 : Bool) a w => ∃ ρ, Wd w0 ρ w ∧ Fr 188 a [(21, u56), (147, .bool s59)] ∧ O36 ρ w w0 12 u56 x54.1) s59 ?_ ?_
  · have hF := hT58
    refine c_region ?_
    refine s_ hf (r_move hf rfl) fun a hf => ?_
    refine s_ hf (r_neq hf rfl rfl) fun a hf => ?_
    refine s_ hf (r_move hf rfl) fun a hf => ?_
    rcases of_ite hF with ⟨hb60, hF⟩ | ⟨hb60, hF⟩
    · refine st_no (b := true) hf rfl rfl rfl hb60 rfl (by decide) fun a hf => ?_
      refine st_no (b := true) hf rfl rfl rfl hb60 rfl (by decide) fun a hf => ?_
      refine st_no (b := true) hf rfl rfl rfl hb60 rfl (by decide) fun a hf => ?_
      refine st_no (b := true) hf rfl rfl rfl hb60 rfl (by decide) fun a hf => ?_
      refine s_ hf (r_pick (b := true) hf rfl hb60 rfl) fun a hf => ?_
      refine s_ hf (r_move hf rfl) fun a hf => ?_
      refine st_no (b := true) hf rfl rfl rfl rfl rfl (by decide) fun a hf => ?_
      refine st_no (b := true) hf rfl rfl rfl rfl rfl (by decide) fun a hf => ?_
      refine s_ hf (r_pick (b := true) hf rfl rfl rfl) fun a hf => ?_
      refine c_nil ⟨rfl, ?_⟩
      obtain rfl := Option.some.inj hF
      exact ⟨_, hw, hf.sub ⟨rfl, rfl, trivial⟩, o12⟩
    refine st_g (b := false) hf rfl rfl rfl hb60 rfl (by decide) (r_move hf rfl) fun a hf => ?_
    refine st_g (b := false) hf rfl rfl rfl hb60 rfl (by decide) (r_move hf rfl) fun a hf => ?_
    obtain ⟨x61, hx62, hF⟩ := of_bind hF
    refine st_gfn (b := false) 13 hw hf rfl rfl rfl hb60 rfl (by decide) (r_fn en13 hf rfl) (laws_lists9_ok o11.ro o2 hx62) fun a v w ρ hf hw hE hN hΦ => ?_
    obtain rfl := hΦ
    replace o2 := o2.ext hE
    replace o3 := o3.ext hE
    replace o11 := o11.ext hE
    replace o12 := o12.ext hE
    refine st_g (b := false) hf rfl rfl rfl hb60 rfl (by decide) (r_not hf rfl) fun a hf => ?_
    refine s_ hf (r_pick (b := false) hf rfl hb60 rfl) fun a hf => ?_
    refine s_ hf (r_move hf rfl) fun a hf => ?_
    rcases of_ite hF with ⟨hb63, hF⟩ | ⟨hb63, hF⟩
    · refine st_no (b := true) hf rfl rfl rfl hb63 rfl (by decide) fun a hf => ?_
      refine st_no (b := true) hf rfl rfl rfl hb63 rfl (by decide) fun a hf => ?_
      refine s_ hf (r_pick (b := true) hf rfl hb63 rfl) fun a hf => ?_
      refine c_nil ⟨rfl, ?_⟩
      obtain rfl := Option.some.inj hF
      exact ⟨_, hw, hf.sub ⟨rfl, rfl, trivial⟩, o12⟩
    refine st_g (b := false) hf rfl rfl rfl hb63 rfl (by decide) (r_move hf rfl) fun a hf => ?_
    refine st_g (b := false) hf rfl rfl rfl hb63 rfl (by decide) (r_neq hf rfl rfl) fun a hf => ?_
    refine s_ hf (r_pick (b := false) hf rfl hb63 rfl) fun a hf => ?_
    refine c_nil ⟨rfl, ?_⟩
    obtain rfl := Option.some.inj hF
    exact ⟨_, hw, hf.sub ⟨rfl, rfl, trivial⟩, o12⟩
  rintro a w ⟨ρ, hw, hf, o12⟩
  have hF := hG58
  refine n_then ?_
  rcases of_ite hF with ⟨hb64, hF⟩ | ⟨hb64, hF⟩
  · refine c_ift hf rfl hb64 <| c_seq <| c_region ?_
    refine s_ hf (r_assign hf rfl) fun a hf => ?_
    refine c_nt <| c_retc ?_
    obtain rfl := Option.some.inj hF
    refine r_then <| c_ret hf (res_tmp Try.results3 hf rfl) ?_
    exact ⟨_, rfl, hw.below, rfl⟩
  refine c_iff hf rfl hb64 <| c_skip <| n_then <| c_seq <| c_seq <| c_region ?_
  refine s_ hf (r_assign hf rfl) fun a hf => ?_
  refine c_nt ?_
  obtain ⟨ol65, ho65, hG65⟩ := of_bind hF
  clear hF
  refine c_block (c_loop (id := 0) (fun s => laws_FnSquares_l65 x54 s) (fun (s66 : Int) a w => ∃ ρ, Wd w0 ρ w ∧ Fr 188 a [(21, u56), (23, vI s66)] ∧ O36 ρ w w0 12 u56 x54.1) (fun (s66 : Int) a w => ∃ ρ, Wd w0 ρ w ∧ Fr 188 a []) ho65 ⟨_, hw, hf.sub ⟨rfl, rfl, trivial⟩, o12⟩ ?_ ?_)
  · rintro s66 lr a w ⟨ρ, hw, hf, o12⟩ hF
    replace hF : laws_FnSquares_l65 x54 s66 = some lr := hF
    unfold laws_FnSquares_l65 at hF
    refine c_seq <| c_seq <| c_region ?_
    refine s_ hf (r_move hf rfl) fun a hf => ?_
    refine s_ hf (r_move hf rfl) fun a hf => ?_
    refine s_ hf (r_len Try.underlying24 o12.ro hf rfl) fun a hf => ?_
    refine s_ hf (r_lss hf rfl rfl) fun a hf => ?_
    refine c_nt ?_
    rcases of_ite hF with ⟨hb67, hF⟩ | ⟨hb67, hF⟩
    rotate_left
    · refine c_iff hf rfl hb67 <| c_exit <| x_then ?_
      obtain rfl := Option.some.inj hF
      exact Rnd.stops ⟨_, hw, hf.sub trivial⟩
    refine c_ift hf rfl hb67 <| c_skip <| n_then <| c_seq <| c_block <| c_seq <| c_region ?_
    refine s_ hf (r_assign hf rfl) fun a hf => ?_
    refine c_nt ?_
    obtain ⟨ol68, ho68, hG68⟩ := of_bind hF
    clear hF
    refine c_block (c_loop (id := 2) (fun s => laws_FnSquares_l68 x54 s66 s) (fun (s69 : Int) a w => ∃ ρ, Wd w0 ρ w ∧ Fr 188 a [(21, u56), (23, vI s66), (24, vI s69)] ∧ O36 ρ w w0 12 u56 x54.1) (fun (s69 : Int) a w => ∃ ρ, Wd w0 ρ w ∧ Fr 188 a [(21, u56), (23, vI s66)] ∧ O36 ρ w w0 12 u56 x54.1) ho68 ⟨_, hw, hf.sub ⟨rfl, rfl, rfl, trivial⟩, o12⟩ ?_ ?_)
    · rintro s69 lr a w ⟨ρ, hw, hf, o12⟩ hF
      replace hF : laws_FnSquares_l68 x54 s66 s69 = some lr := hF
      unfold laws_FnSquares_l68 at hF
      refine c_seq <| c_seq <| c_region ?_
      refine s_ hf (r_move hf rfl) fun a hf => ?_
      refine s_ hf (r_move hf rfl) fun a hf => ?_
      refine s_ hf (r_len Try.underlying24 o12.ro hf rfl) fun a hf => ?_
      refine s_ hf (r_lss hf rfl rfl) fun a hf => ?_
      refine c_nt ?_
      rcases of_ite hF with ⟨hb70, hF⟩ | ⟨hb70, hF⟩
      rotate_left
      · refine c_iff hf rfl hb70 <| c_exit <| x_then ?_
        obtain rfl := Option.some.inj hF
        exact Rnd.stops ⟨_, hw, hf.sub ⟨rfl, rfl, trivial⟩, o12⟩
      refine c_ift hf rfl hb70 <| c_skip <| n_then <| c_seq <| c_block <| c_seq ?_
      obtain ⟨s72, hT71, hG71⟩ := of_bind hF
      clear hF
      refine c_meet (fun (s72 : Bool) a w => ∃ ρ, Wd w0 ρ w ∧ Fr 188 a [(21, u56), (23, vI s66), (24, vI s69), (187, .bool s72)] ∧ O36 ρ w w0 12 u56 x54.1) s72 ?_ ?_
      · have hF := hT71
        refine c_region ?_
        refine s_ hf (r_move hf rfl) fun a hf => ?_
        refine s_ hf (r_move hf rfl) fun a hf => ?_
        obtain ⟨hc73, hF⟩ := of_guard hF
        obtain ⟨ad74, c74, u74, he74, hl74, ho74⟩ := Ro.el_row o12.ro hc73.1 hc73.2
        refine s_ hf (r_idx Try.underlying24 sz36 hf rfl ⟨_, he74⟩ rfl hc73.1 hc73.2) fun a hf => ?_
        refine s_ hf (r_load_cell ty36 hf rfl hl74) fun a hf => ?_
        refine s_ hf (r_move hf rfl) fun a hf => ?_
        obtain ⟨hc75, hF⟩ := of_guard hF
        obtain ⟨ad76, c76, he76, hl76⟩ := Ro.el fI64 ho74 0 hc75.1 hc75.2
        refine s_ hf (r_idx Try.underlying36 sz2 hf rfl ⟨_, he76⟩ rfl hc75.1 hc75.2) fun a hf => ?_
        refine s_ hf (r_load_cell ty2 hf rfl hl76) fun a hf => ?_
        refine s_ hf (r_neq hf rfl rfl) fun a hf => ?_
        refine s_ hf (r_move hf rfl) fun a hf => ?_
        rcases of_ite hF with ⟨hb77, hF⟩ | ⟨hb77, hF⟩
        rotate_left
        · refine st_no (b := false) hf rfl rfl rfl hb77 rfl (by decide) fun a hf => ?_
          refine st_no (b := false) hf rfl rfl rfl hb77 rfl (by decide) fun a hf => ?_
          refine st_no (b := false) hf rfl rfl rfl hb77 rfl (by decide) fun a hf => ?_
          refine s_ hf (r_pick (b := false) hf rfl hb77 rfl) fun a hf => ?_
          refine s_ hf (r_move hf rfl) fun a hf => ?_
          refine st_g (b := false) hf rfl rfl rfl rfl rfl (by decide) (r_move hf rfl) fun a hf => ?_
          refine st_g (b := false) hf rfl rfl rfl rfl rfl (by decide) (r_move hf rfl) fun a hf => ?_
          refine st_g (b := false) hf rfl rfl rfl rfl rfl (by decide) (r_eql hf rfl rfl) fun a hf => ?_
          refine st_g (b := false) hf rfl rfl rfl rfl rfl (by decide) (r_move hf rfl) fun a hf => ?_
          rcases of_ite hF with ⟨hb82, hF⟩ | ⟨hb82, hF⟩
          rotate_left
          · refine st_no (b := false) hf rfl rfl rfl hb82 rfl (by decide) fun a hf => ?_
            refine st_no (b := false) hf rfl rfl rfl hb82 rfl (by decide) fun a hf => ?_
            refine st_no (b := false) hf rfl rfl rfl hb82 rfl (by decide) fun a hf => ?_
            refine st_no (b := false) hf rfl rfl rfl hb82 rfl (by decide) fun a hf => ?_
            refine st_no (b := false) hf rfl rfl rfl hb82 rfl (by decide) fun a hf => ?_
            refine st_no (b := false) hf rfl rfl rfl hb82 rfl (by decide) fun a hf => ?_
            refine st_no (b := false) hf rfl rfl rfl hb82 rfl (by decide) fun a hf => ?_
            refine st_no (b := false) hf rfl rfl rfl hb82 rfl (by decide) fun a hf => ?_
            refine st_g (b := false) hf rfl rfl rfl rfl rfl (by decide) (r_pick (b := false) hf rfl hb82 rfl) fun a hf => ?_
            refine s_ hf (r_pick (b := false) hf rfl rfl rfl) fun a hf => ?_
            refine c_nil ⟨rfl, ?_⟩
            obtain rfl := Option.some.inj hF
            exact ⟨_, hw, hf.sub ⟨rfl, rfl, rfl, rfl, trivial⟩, o12⟩
          refine st_g (b := true) hf rfl rfl rfl hb82 rfl (by decide) (r_move hf rfl) fun a hf => ?_
          refine st_g (b := true) hf rfl rfl rfl hb82 rfl (by decide) (r_move hf rfl) fun a hf => ?_
          obtain ⟨ad83, c83, u83, he83, hl83, ho83⟩ := Ro.el_row o12.ro hc73.1 hc73.2
          refine st_g (b := true) hf rfl rfl rfl hb82 rfl (by decide) (r_idx Try.underlying24 sz36 hf rfl ⟨_, he83⟩ rfl hc73.1 hc73.2) fun a hf => ?_
          refine st_g (b := true) hf rfl rfl rfl hb82 rfl (by decide) (r_load_cell ty36 hf rfl hl83) fun a hf => ?_
          refine st_g (b := true) hf rfl rfl rfl hb82 rfl (by decide) (r_move hf rfl) fun a hf => ?_
          obtain ⟨ad84, c84, he84, hl84⟩ := Ro.el fI64 ho83 0 hc75.1 hc75.2
          refine st_g (b := true) hf rfl rfl rfl hb82 rfl (by decide) (r_idx Try.underlying36 sz2 hf rfl ⟨_, he84⟩ rfl hc75.1 hc75.2) fun a hf => ?_
          refine st_g (b := true) hf rfl rfl rfl hb82 rfl (by decide) (r_load_cell ty2 hf rfl hl84) fun a hf => ?_
          refine st_g (b := true) hf rfl rfl rfl hb82 rfl (by decide) (r_neq hf rfl rfl) fun a hf => ?_
          refine st_g (b := false) hf rfl rfl rfl rfl rfl (by decide) (r_pick (b := true) hf rfl hb82 rfl) fun a hf => ?_
          refine s_ hf (r_pick (b := false) hf rfl rfl rfl) fun a hf => ?_
          refine c_nil ⟨rfl, ?_⟩
          obtain rfl := Option.some.inj hF
          exact ⟨_, hw, hf.sub ⟨rfl, rfl, rfl, rfl, trivial⟩, o12⟩
        refine st_g (b := true) hf rfl rfl rfl hb77 rfl (by decide) (r_move hf rfl) fun a hf => ?_
        refine st_g (b := true) hf rfl rfl rfl hb77 rfl (by decide) (r_move hf rfl) fun a hf => ?_
        refine st_g (b := true) hf rfl rfl rfl hb77 rfl (by decide) (r_neq hf rfl rfl) fun a hf => ?_
        refine s_ hf (r_pick (b := true) hf rfl hb77 rfl) fun a hf => ?_
        refine s_ hf (r_move hf rfl) fun a hf => ?_
        rcases of_ite hF with ⟨hb78, hF⟩ | ⟨hb78, hF⟩
        · refine st_no (b := true) hf rfl rfl rfl hb78 rfl (by decide) fun a hf => ?_
          refine st_no (b := true) hf rfl rfl rfl hb78 rfl (by decide) fun a hf => ?_
          refine st_no (b := true) hf rfl rfl rfl hb78 rfl (by decide) fun a hf => ?_
          refine st_no (b := true) hf rfl rfl rfl hb78 rfl (by decide) fun a hf => ?_
          refine st_nu hf rfl rfl rfl rfl (by decide) fun a hf => ?_
          refine st_nu hf rfl rfl rfl rfl (by decide) fun a hf => ?_
          refine st_nu hf rfl rfl rfl rfl (by decide) fun a hf => ?_
          refine st_nu hf rfl rfl rfl rfl (by decide) fun a hf => ?_
          refine st_nu hf rfl rfl rfl rfl (by decide) fun a hf => ?_
          refine st_nu hf rfl rfl rfl rfl (by decide) fun a hf => ?_
          refine st_nu hf rfl rfl rfl rfl (by decide) fun a hf => ?_
          refine st_nu hf rfl rfl rfl rfl (by decide) fun a hf => ?_
          refine st_no (b := true) hf rfl rfl rfl hb78 rfl (by decide) fun a hf => ?_
          refine s_ hf (r_pick (b := true) hf rfl hb78 rfl) fun a hf => ?_
          refine c_nil ⟨rfl, ?_⟩
          obtain rfl := Option.some.inj hF
          exact ⟨_, hw, hf.sub ⟨rfl, rfl, rfl, rfl, trivial⟩, o12⟩
        refine st_g (b := false) hf rfl rfl rfl hb78 rfl (by decide) (r_move hf rfl) fun a hf => ?_
        refine st_g (b := false) hf rfl rfl rfl hb78 rfl (by decide) (r_move hf rfl) fun a hf => ?_
        refine st_g (b := false) hf rfl rfl rfl hb78 rfl (by decide) (r_eql hf rfl rfl) fun a hf => ?_
        refine st_g (b := false) hf rfl rfl rfl hb78 rfl (by decide) (r_move hf rfl) fun a hf => ?_
        rcases of_ite hF with ⟨hb79, hF⟩ | ⟨hb79, hF⟩
        rotate_left
        · refine st_no (b := false) hf rfl rfl rfl hb79 rfl (by decide) fun a hf => ?_
          refine st_no (b := false) hf rfl rfl rfl hb79 rfl (by decide) fun a hf => ?_
          refine st_no (b := false) hf rfl rfl rfl hb79 rfl (by decide) fun a hf => ?_
          refine st_no (b := false) hf rfl rfl rfl hb79 rfl (by decide) fun a hf => ?_
          refine st_no (b := false) hf rfl rfl rfl hb79 rfl (by decide) fun a hf => ?_
          refine st_no (b := false) hf rfl rfl rfl hb79 rfl (by decide) fun a hf => ?_
          refine st_no (b := false) hf rfl rfl rfl hb79 rfl (by decide) fun a hf => ?_
          refine st_no (b := false) hf rfl rfl rfl hb79 rfl (by decide) fun a hf => ?_
          refine st_g (b := false) hf rfl rfl rfl hb78 rfl (by decide) (r_pick (b := false) hf rfl hb79 rfl) fun a hf => ?_
          refine s_ hf (r_pick (b := false) hf rfl hb78 rfl) fun a hf => ?_
          refine c_nil ⟨rfl, ?_⟩
          obtain rfl := Option.some.inj hF
          exact ⟨_, hw, hf.sub ⟨rfl, rfl, rfl, rfl, trivial⟩, o12⟩
        refine st_g (b := true) hf rfl rfl rfl hb79 rfl (by decide) (r_move hf rfl) fun a hf => ?_
        refine st_g (b := true) hf rfl rfl rfl hb79 rfl (by decide) (r_move hf rfl) fun a hf => ?_
        obtain ⟨ad80, c80, u80, he80, hl80, ho80⟩ := Ro.el_row o12.ro hc73.1 hc73.2
        refine st_g (b := true) hf rfl rfl rfl hb79 rfl (by decide) (r_idx Try.underlying24 sz36 hf rfl ⟨_, he80⟩ rfl hc73.1 hc73.2) fun a hf => ?_
        refine st_g (b := true) hf rfl rfl rfl hb79 rfl (by decide) (r_load_cell ty36 hf rfl hl80) fun a hf => ?_
        refine st_g (b := true) hf rfl rfl rfl hb79 rfl (by decide) (r_move hf rfl) fun a hf => ?_
        obtain ⟨ad81, c81, he81, hl81⟩ := Ro.el fI64 ho80 0 hc75.1 hc75.2
        refine st_g (b := true) hf rfl rfl rfl hb79 rfl (by decide) (r_idx Try.underlying36 sz2 hf rfl ⟨_, he81⟩ rfl hc75.1 hc75.2) fun a hf => ?_
        refine st_g (b := true) hf rfl rfl rfl hb79 rfl (by decide) (r_load_cell ty2 hf rfl hl81) fun a hf => ?_
        refine st_g (b := true) hf rfl rfl rfl hb79 rfl (by decide) (r_neq hf rfl rfl) fun a hf => ?_
        refine st_g (b := false) hf rfl rfl rfl hb78 rfl (by decide) (r_pick (b := true) hf rfl hb79 rfl) fun a hf => ?_
        refine s_ hf (r_pick (b := false) hf rfl hb78 rfl) fun a hf => ?_
        refine c_nil ⟨rfl, ?_⟩
        obtain rfl := Option.some.inj hF
        exact ⟨_, hw, hf.sub ⟨rfl, rfl, rfl, rfl, trivial⟩, o12⟩
      rintro a w ⟨ρ, hw, hf, o12⟩
      have hF := hG71
      refine n_then ?_
      rcases of_ite hF with ⟨hb85, hF⟩ | ⟨hb85, hF⟩
      rotate_left
      · refine c_iff hf rfl hb85 <| c_skip <| n_block <| n_then <| c_region ?_
        refine s_ hf (r_move hf rfl) fun a hf => ?_
        refine s_ hf (r_add hf rfl rfl) fun a hf => ?_
        refine s_ hf (r_assign hf rfl) fun a hf => ?_
        refine c_nil ?_
        obtain rfl := Option.some.inj hF
        exact Rnd.goes ⟨_, hw, hf.sub ⟨rfl, rfl, rfl, trivial⟩, o12⟩
      refine c_ift hf rfl hb85 <| c_seq <| c_region ?_
      refine s_ hf (r_assign hf rfl) fun a hf => ?_
      refine c_nt <| c_retc ?_
      obtain rfl := Option.some.inj hF
      refine r_block <| r_then ?_
      refine Rnd.rets fun ho => ?_
      subst ho
      have hF := hG68
      dsimp only at hF
      obtain rfl := Option.some.inj hF
      refine r_block <| r_block <| r_then ?_
      refine Rnd.rets fun ho => ?_
      subst ho
      have hF := hG65
      dsimp only at hF
      obtain rfl := Option.some.inj hF
      refine r_block <| r_then <| c_ret hf (res_tmp Try.results3 hf rfl) ?_
      exact ⟨_, rfl, hw.below, rfl⟩
    rintro s69 a w hs ⟨ρ, hw, hf, o12⟩
    subst hs
    have hF := hG68
    dsimp only at hF
    refine x_block <| n_block <| n_then <| c_region ?_
    refine s_ hf (r_move hf rfl) fun a hf => ?_
    refine s_ hf (r_add hf rfl rfl) fun a hf => ?_
    refine s_ hf (r_assign hf rfl) fun a hf => ?_
    refine c_nil ?_
    obtain rfl := Option.some.inj hF
    exact Rnd.goes ⟨_, hw, hf.sub ⟨rfl, rfl, trivial⟩, o12⟩
  rintro s66 a w hs ⟨ρ, hw, hf⟩
  subst hs
  have hF := hG65
  dsimp only at hF
  refine x_block <| n_then <| c_seq <| c_region ?_
  refine s_ hf (r_assign hf rfl) fun a hf => ?_
  refine c_nt <| c_retc ?_
  obtain rfl := Option.some.inj hF
  refine c_ret hf (res_tmp Try.results3 hf rfl) ?_
  exact ⟨_, rfl, hw.below, rfl⟩
end Go.Proofs.YtB
