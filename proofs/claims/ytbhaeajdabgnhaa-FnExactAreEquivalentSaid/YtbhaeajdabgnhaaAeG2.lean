/- Functions of the program as plain functions, and that they compute these. Printed by gen.py. -/
import Derived.Test.YtbhaeajdabgnhaaAeG1
set_option linter.unusedVariables false
set_option linter.unusedSimpArgs false
set_option maxRecDepth 4000
set_option maxHeartbeats 1000000
namespace Go.Proofs.YtB
open Go Go.RowKit Go.Proofs Go.Proofs.YtbhaeajdabgnhaaW.PrintWords
/-! f55 -/
noncomputable def impl_inverted_l1 (a1 : List (List Int)) (s2 : Int) (s3 : List Nat) (s4 : List (List Int)) : Option (LR (Int × (List Nat) × (List (List Int))) (List (List Int))) :=
  if (decide (s2 < (a1.length : Int))) = true then (if 0 ≤ s2 ∧ s2 < (a1.length : Int) then (if 0 ≤ (a1.length : Int) ∧ (a1.length : Int) * 8 ≤ 281474976710656 then (if 0 ≤ s2 ∧ s2 < ((List.replicate (a1.length : Int).toNat (0 : Int)).length : Int) then ((slices_Concat_107 ([gl [] a1 s2, ((List.replicate (a1.length : Int).toNat (0 : Int)).set s2.toNat 1)] : List (List Int))).bind fun x13 => if (s3.length + 1) * 24 ≤ 140737488355328 then (some (.next (w64 (s2 + 1), (s3 ++ [s4.length]), (s4 ++ [x13])))) else none) else none) else none) else none) else (some (.stop (s2, s3, s4)))
noncomputable def impl_inverted_l42 (a0 : Int) (s21 : Int) (s22 : List Nat) (s23 : List (List Int)) (x26 : Int) (x39 : Int) (s43 : Int) (s44 : List (List Int)) : Option (LR (Int × (List (List Int))) (List (List Int))) :=
  if (decide (s43 < ((s23.getD (gl 0 ((s22.set s21.toNat (gl 0 s22 (w64 (s21 + x26)))).set (w64 (s21 + x26)).toNat (gl 0 s22 s21)) s21) []).length : Int))) = true then (if 0 ≤ s43 ∧ s43 < ((s44.getD (gl 0 ((s22.set s21.toNat (gl 0 s22 (w64 (s21 + x26)))).set (w64 (s21 + x26)).toNat (gl 0 s22 s21)) s21) []).length : Int) then (if a0 ≠ 0 then (some (.next (w64 (s43 + 1), (s44.set (gl 0 ((s22.set s21.toNat (gl 0 s22 (w64 (s21 + x26)))).set (w64 (s21 + x26)).toNat (gl 0 s22 s21)) s21) ((s44.getD (gl 0 ((s22.set s21.toNat (gl 0 s22 (w64 (s21 + x26)))).set (w64 (s21 + x26)).toNat (gl 0 s22 s21)) s21) []).set s43.toNat ((w64 ((gl 0 (s44.getD (gl 0 ((s22.set s21.toNat (gl 0 s22 (w64 (s21 + x26)))).set (w64 (s21 + x26)).toNat (gl 0 s22 s21)) s21) []) s43) * x39)).tmod a0)))))) else none) else none) else (some (.stop (s43, s44)))
noncomputable def impl_inverted_l62 (a0 : Int) (s21 : Int) (s22 : List Nat) (x26 : Int) (s53 : Int) (s54 : List (List Int)) (s63 : Int) (s64 : List (List Int)) : Option (LR (Int × (List (List Int))) (List (List Int))) :=
  if (decide (s63 < ((s54.getD (gl 0 ((s22.set s21.toNat (gl 0 s22 (w64 (s21 + x26)))).set (w64 (s21 + x26)).toNat (gl 0 s22 s21)) s53) []).length : Int))) = true then (if 0 ≤ s63 ∧ s63 < ((s64.getD (gl 0 ((s22.set s21.toNat (gl 0 s22 (w64 (s21 + x26)))).set (w64 (s21 + x26)).toNat (gl 0 s22 s21)) s53) []).length : Int) then (if 0 ≤ s63 ∧ s63 < ((s64.getD (gl 0 ((s22.set s21.toNat (gl 0 s22 (w64 (s21 + x26)))).set (w64 (s21 + x26)).toNat (gl 0 s22 s21)) s21) []).length : Int) then (if a0 ≠ 0 then (some (.next (w64 (s63 + 1), (s64.set (gl 0 ((s22.set s21.toNat (gl 0 s22 (w64 (s21 + x26)))).set (w64 (s21 + x26)).toNat (gl 0 s22 s21)) s53) ((s64.getD (gl 0 ((s22.set s21.toNat (gl 0 s22 (w64 (s21 + x26)))).set (w64 (s21 + x26)).toNat (gl 0 s22 s21)) s53) []).set s63.toNat ((w64 ((gl 0 (s64.getD (gl 0 ((s22.set s21.toNat (gl 0 s22 (w64 (s21 + x26)))).set (w64 (s21 + x26)).toNat (gl 0 s22 s21)) s53) []) s63) + (w64 ((w64 (a0 - (gl 0 (s54.getD (gl 0 ((s22.set s21.toNat (gl 0 s22 (w64 (s21 + x26)))).set (w64 (s21 + x26)).toNat (gl 0 s22 s21)) s53) []) s21))) * (gl 0 (s64.getD (gl 0 ((s22.set s21.toNat (gl 0 s22 (w64 (s21 + x26)))).set (w64 (s21 + x26)).toNat (gl 0 s22 s21)) s21) []) s63))))).tmod a0)))))) else none) else none) else none) else (some (.stop (s63, s64)))
noncomputable def impl_inverted_l52 (a0 : Int) (s21 : Int) (s22 : List Nat) (x26 : Int) (s53 : Int) (s54 : List (List Int)) : Option (LR (Int × (List (List Int))) (List (List Int))) :=
  if (decide (s53 < (((s22.set s21.toNat (gl 0 s22 (w64 (s21 + x26)))).set (w64 (s21 + x26)).toNat (gl 0 s22 s21)).length : Int))) = true then (if (decide (s53 = s21)) = true then (some (.next (w64 (s53 + 1), s54))) else (if 0 ≤ s53 ∧ s53 < (((s22.set s21.toNat (gl 0 s22 (w64 (s21 + x26)))).set (w64 (s21 + x26)).toNat (gl 0 s22 s21)).length : Int) then (if 0 ≤ s21 ∧ s21 < ((s54.getD (gl 0 ((s22.set s21.toNat (gl 0 s22 (w64 (s21 + x26)))).set (w64 (s21 + x26)).toNat (gl 0 s22 s21)) s53) []).length : Int) then ((iter (fun s => impl_inverted_l62 a0 s21 s22 x26 s53 s54 s.1 s.2) (0, s54)).bind fun o => match o with | .stop (s63, s64) => (some (.next (w64 (s53 + 1), s64))) | .ret r => some (.ret r) | .next _ => none) else none) else none)) else (some (.stop (s53, s54)))
noncomputable def impl_inverted_l20 (a0 : Int) (a1 : List (List Int)) (s21 : Int) (s22 : List Nat) (s23 : List (List Int)) : Option (LR (Int × (List Nat) × (List (List Int))) (List (List Int))) :=
  if (decide (s21 < (a1.length : Int))) = true then (if 0 ≤ s21 ∧ s21 ≤ ((gi s22 s23).length : Int) then ((slices_IndexFunc_108_f109 (((gi s22 s23).take ((gi s22 s23).length : Int).toNat).drop s21.toNat) s21).bind fun x26 => if 0 ≤ w64 (s21 + x26) ∧ w64 (s21 + x26) < (s22.length : Int) then (if 0 ≤ s21 ∧ s21 < (s22.length : Int) then (if 0 ≤ w64 (s21 + x26) ∧ w64 (s21 + x26) < ((s22.set s21.toNat (gl 0 s22 (w64 (s21 + x26)))).length : Int) then (if 0 ≤ s21 ∧ s21 < (((s22.set s21.toNat (gl 0 s22 (w64 (s21 + x26)))).set (w64 (s21 + x26)).toNat (gl 0 s22 s21)).length : Int) then (if 0 ≤ s21 ∧ s21 < ((s23.getD (gl 0 ((s22.set s21.toNat (gl 0 s22 (w64 (s21 + x26)))).set (w64 (s21 + x26)).toNat (gl 0 s22 s21)) s21) []).length : Int) then ((impl_inverse a0 (gl 0 (s23.getD (gl 0 ((s22.set s21.toNat (gl 0 s22 (w64 (s21 + x26)))).set (w64 (s21 + x26)).toNat (gl 0 s22 s21)) s21) []) s21)).bind fun x39 => (iter (fun s => impl_inverted_l42 a0 s21 s22 s23 x26 x39 s.1 s.2) (0, s23)).bind fun o => match o with | .stop (s43, s44) => ((iter (fun s => impl_inverted_l52 a0 s21 s22 x26 s.1 s.2) (0, s44)).bind fun o => match o with | .stop (s53, s54) => (some (.next (w64 (s21 + 1), ((s22.set s21.toNat (gl 0 s22 (w64 (s21 + x26)))).set (w64 (s21 + x26)).toNat (gl 0 s22 s21)), s54))) | .ret r => some (.ret r) | .next _ => none) | .ret r => some (.ret r) | .next _ => none) else none) else none) else none) else none) else none) else none) else (some (.stop (s21, s22, s23)))
noncomputable def impl_inverted_l75 (a1 : List (List Int)) (s22 : List Nat) (s23 : List (List Int)) (s76 : Int) (s77 : List Nat) (s78 : List (List Int)) : Option (LR (Int × (List Nat) × (List (List Int))) (List (List Int))) :=
  if (decide (s76 < (s22.length : Int))) = true then (if 0 ≤ s76 ∧ s76 < (s22.length : Int) then (if 0 ≤ (a1.length : Int) ∧ (a1.length : Int) ≤ ((s23.getD (gl 0 s22 s76) []).length : Int) then ((slices_Clone_111 (((s23.getD (gl 0 s22 s76) []).take ((s23.getD (gl 0 s22 s76) []).length : Int).toNat).drop (a1.length : Int).toNat)).bind fun x85 => if (s77.length + 1) * 24 ≤ 140737488355328 then (some (.next (w64 (s76 + 1), (s77 ++ [s78.length]), (s78 ++ [x85])))) else none) else none) else none) else (some (.stop (s76, s77, s78)))
noncomputable def impl_inverted (a0 : Int) (a1 : List (List Int)) : Option (List (List Int)) :=
  (iter (fun s => impl_inverted_l1 a1 s.1 s.2.1 s.2.2) (0, ([] : List Nat), ([] : List (List Int)))).bind fun o => match o with | .stop (s2, s3, s4) => ((iter (fun s => impl_inverted_l20 a0 a1 s.1 s.2.1 s.2.2) (0, s3, s4)).bind fun o => match o with | .stop (s21, s22, s23) => ((iter (fun s => impl_inverted_l75 a1 s22 s23 s.1 s.2.1 s.2.2) (0, ([] : List Nat), ([] : List (List Int)))).bind fun o => match o with | .stop (s76, s77, s78) => (some ((gi s77 s78))) | .ret r => some r | .next _ => none) | .ret r => some r | .next _ => none) | .ret r => some r | .next _ => none
theorem impl_inverted_ok {w0 : World} {a0 : Int} {a1 : List (List Int)} {va1 : Value} (h1 : Ro (Kd.slice 2 (kf fI64)) w0 va1 a1) {r : List (List Int)} (hF : impl_inverted a0 a1 = some r) :
    Calls Try.prog 55 [vI a0, va1].toArray w0 fun e w => ∃ v, e = .returned v ∧ Below w0.heap.size w0 w ∧ ∃ u0, u0 = v ∧ Fresh (Kd.slice 2 (kf fI64)) 36 w0 w u0 r := by
  refine calls_of (k := 172) Try.func55 rfl rfl (Nat.le_of_ble_eq_true rfl) fun a hf => ?_
  replace hf : Fr 172 a [(0, vI a0), (1, va1)] := hf
  refine c_start fun w ρ hw => ?_
  unfold impl_inverted at hF
  refine c_seq <| c_region ?_
  have o1 : Ow (Kd.slice 2 (kf fI64)) 36 ρ w w0.heap.size 1 (.slice none 0 0) [] := Ow.nil _ _ _ _ _ _
  refine s_ hf (r_assign hf rfl) fun a hf => ?_
  refine c_nt <| c_seq <| c_region ?_
  refine s_ hf (r_move hf rfl) fun a hf => ?_
  refine s_ hf (r_len Try.underlying24 (h1.now hw) hf rfl) fun a hf => ?_
  refine s_ hf (r_assign hf rfl) fun a hf => ?_
  refine c_nt <| c_seq <| c_region ?_
  refine sx_ hf (r_lit_none (d := (Kd.slice 2 (kf fI64))) 2 Try.underlying24 el36 hw) fun a v2 w hf hΦ => ?_
  obtain ⟨ρ, hw, hE, o2⟩ := hΦ
  replace o1 := o1.ext hE
  replace o2 : Gd fI64 2 36 ρ w w0.heap.size 2 v2 (fun _ => (⟨.bool false, rfl⟩ : V1)) ([] : List Nat) ([] : List (List Int)) := Gd.empty o2 rfl (by decide) _
  refine s_ hf (r_assign hf rfl) fun a hf => ?_
  refine c_nt <| c_seq <| c_seq <| c_region ?_
  refine s_ hf (r_move hf rfl) fun a hf => ?_
  refine s_ hf (r_len Try.underlying24 (h1.now hw) hf rfl) fun a hf => ?_
  refine s_ hf (r_move hf rfl) fun a hf => ?_
  refine c_nt ?_
  obtain ⟨ol1, ho1, hG1⟩ := of_bind hF
  clear hF
  refine c_block (c_loop (id := 0) (fun s => impl_inverted_l1 a1 s.1 s.2.1 s.2.2) (fun (s : Int × (List Nat) × (List (List Int))) a w => match s with | (s2, s3, s4) => ∃ ρ vv5 f6, Wd w0 ρ w ∧ Fr 172 a [(0, vI a0), (5, vI (a1.length : Int)), (6, vv5), (23, va1), (24, vI (a1.length : Int)), (25, vI s2)] ∧ Gd fI64 2 36 ρ w w0.heap.size 2 vv5 f6 s3 s4) (fun (s : Int × (List Nat) × (List (List Int))) a w => match s with | (s2, s3, s4) => ∃ ρ vv5 f6, Wd w0 ρ w ∧ Fr 172 a [(0, vI a0), (5, vI (a1.length : Int)), (6, vv5)] ∧ Gd fI64 2 36 ρ w w0.heap.size 2 vv5 f6 s3 s4) ho1 ⟨_, _, _, hw, hf.sub ⟨rfl, rfl, rfl, rfl, rfl, rfl, trivial⟩, o2⟩ ?_ ?_)
  · rintro ⟨s2, s3, s4⟩ lr a w ⟨ρ, vv5, f6, hw, hf, o2⟩ hF
    replace hF : impl_inverted_l1 a1 s2 s3 s4 = some lr := hF
    unfold impl_inverted_l1 at hF
    refine c_seq <| c_region ?_
    refine s_ hf (r_lss hf rfl rfl) fun a hf => ?_
    refine c_nt <| c_seq ?_
    rcases of_ite hF with ⟨hb7, hF⟩ | ⟨hb7, hF⟩
    rotate_left
    · refine c_iff hf rfl hb7 <| c_exit <| x_then ?_
      obtain rfl := Option.some.inj hF
      exact Rnd.stops ⟨_, _, _, hw, hf.sub ⟨rfl, rfl, rfl, trivial⟩, o2⟩
    refine c_ift hf rfl hb7 <| c_skip <| n_then <| c_seq <| c_block <| c_seq <| c_region ?_
    refine s_ hf (r_move hf rfl) fun a hf => ?_
    obtain ⟨hc8, hF⟩ := of_guard hF
    obtain ⟨ad9, c9, u9, he9, hl9, ho9⟩ := Ro.el_row h1 hc8.1 hc8.2
    refine s_ hf (r_idx Try.underlying24 sz36 hf rfl ⟨_, he9⟩ rfl hc8.1 hc8.2) fun a hf => ?_
    refine s_ hf (r_load_cell ty36 hf rfl (hl9.below hw.below)) fun a hf => ?_
    refine s_ hf (r_assign hf rfl) fun a hf => ?_
    refine s_ hf (r_assign hf rfl) fun a hf => ?_
    refine c_nt <| c_seq <| c_region ?_
    refine s_ hf (r_move hf rfl) fun a hf => ?_
    obtain ⟨hc10, hF⟩ := of_guard hF
    refine sx_ hf (r_make (d := fI64) (z0 := 0) 3 Try.underlying36 el2 rfl hw hf rfl hc10.1 (mk_le hc10.1 hc10.2)) fun a v3 w hf hΦ => ?_
    obtain ⟨ρ, hw, hE, o3⟩ := hΦ
    replace o2 := o2.ext hE
    refine s_ hf (r_assign hf rfl) fun a hf => ?_
    refine c_nt <| c_seq <| c_region ?_
    refine s_ hf (r_move hf rfl) fun a hf => ?_
    refine s_ hf (r_move hf rfl) fun a hf => ?_
    obtain ⟨hc11, hF⟩ := of_guard hF
    obtain ⟨ad12, hl12⟩ := Ow.ce (d := fI64) o3 0 hc11.1 hc11.2
    refine s_ hf (r_idx Try.underlying36 sz2 hf rfl hl12.at_ rfl hc11.1 hc11.2) fun a hf => ?_
    refine sk_ hf (r_store_ec (b := 1) 0 hw (by decide) o3 hc11.1 hc11.2 (Lens.id _) hl12.at_ ty2 (by first | rfl | exact Nat.add_assoc _ _ _ | (simp only [Nat.add_assoc]; rfl)) hf rfl rfl rfl) fun a w hf hΦ => ?_
    obtain ⟨hw, hA, o3⟩ := hΦ
    replace o2 := o2.adv hA (by decide) (fun _ => by unfold lab; omega)
    refine c_nt <| c_region ?_
    refine s_ hf (r_move hf rfl) fun a hf => ?_
    refine s_ hf (r_move hf rfl) fun a hf => ?_
    refine s_ hf (r_move hf rfl) fun a hf => ?_
    refine sx_ hf (r_lit_ro (d := (Kd.slice 2 (kf fI64))) (m := 1) (xs := ([gl [] a1 s2, ((List.replicate (a1.length : Int).toNat (0 : Int)).set s2.toNat 1)] : List (List Int))) (raws := [⟨[u9], rfl, one_one (ho9.now hw).one⟩, ⟨[v3], rfl, one_one o3.ro.one⟩]) (vs := [u9, v3]) rfl Try.underlying24 el36 (Nat.le_of_ble_eq_true rfl) (Nat.le_of_ble_eq_true rfl) hw hf rfl rfl (cl2 (ho9.now hw).cells1 (cl2 o3.ro.cells1 rfl)) ⟨(ho9.now hw).K 2, ⟨o3.ro.K 2, trivial⟩⟩) fun a v5 w hf hΦ => ?_
    obtain ⟨ρ, hw, hE, o5⟩ := hΦ
    replace o2 := o2.ext hE
    replace o3 := o3.ext hE
    obtain ⟨x13, hx14, hF⟩ := of_bind hF
    refine st_fn 6 hw hf rfl rfl (by decide) (r_fn en107 hf rfl) (slices_Concat_107_ok o5 hx14) fun a v w ρ hf hw hE hN hΦ => ?_
    obtain ⟨u15, rfl, hr16⟩ := hΦ
    replace o2 := o2.ext hE
    replace o3 := o3.ext hE
    replace o5 := o5.ext hE
    have o6 := hN hr16
    refine sx_ hf (r_glit 7 Try.underlying24 el36 hw hf rfl o6) fun a v7 w hf hΦ => ?_
    obtain ⟨ρ, hw, hE, o7⟩ := hΦ
    replace o2 := o2.ext hE
    replace o3 := o3.ext hE
    replace o5 := o5.ext hE
    replace o6 := o6.ext hE
    obtain ⟨hc17, hF⟩ := of_guard hF
    refine sx_ hf (r_gapp' Try.underlying24 el36 hw (by decide) (by decide) (fun _ => by unfold lab; omega) o2 o7 o6 hc17 hf rfl rfl) fun a va18 w hf hΦ => ?_
    obtain ⟨f18, ρ, hw, hT, o2, hff18, hnu18⟩ := hΦ
    replace o3 := o3.tr (hT 3 (by decide) (by decide))
    rw [hnu18] at hf
    have hn19 : s4.length < (s4 ++ [x13]).length := by simp
    refine s_ hf (r_assign hf rfl) fun a hf => ?_
    refine c_nil <| n_block <| n_then <| c_region ?_
    refine s_ hf (r_add hf rfl rfl) fun a hf => ?_
    refine s_ hf (r_move hf rfl) fun a hf => ?_
    refine c_nil ?_
    obtain rfl := Option.some.inj hF
    exact Rnd.goes ⟨_, _, _, hw, hf.sub ⟨rfl, rfl, rfl, rfl, rfl, rfl, trivial⟩, o2⟩
  rintro ⟨s2, s3, s4⟩ a w hs ⟨ρ, vv5, f6, hw, hf, o2⟩
  subst hs
  have hF := hG1
  dsimp only at hF
  refine x_block <| n_then <| c_seq <| c_seq <| c_region ?_
  refine s_ hf (r_move hf rfl) fun a hf => ?_
  refine s_ hf (r_move hf rfl) fun a hf => ?_
  refine c_nt ?_
  obtain ⟨ol20, ho20, hG20⟩ := of_bind hF
  clear hF
  refine c_block (c_loop (id := 2) (fun s => impl_inverted_l20 a0 a1 s.1 s.2.1 s.2.2) (fun (s : Int × (List Nat) × (List (List Int))) a w => match s with | (s21, s22, s23) => ∃ ρ, Wd w0 ρ w ∧ Fr 172 a [(0, vI a0), (5, vI (a1.length : Int)), (6, vv5), (43, vI (a1.length : Int)), (44, vI s21)] ∧ Gd fI64 2 36 ρ w w0.heap.size 2 vv5 f6 s22 s23) (fun (s : Int × (List Nat) × (List (List Int))) a w => match s with | (s21, s22, s23) => ∃ ρ, Wd w0 ρ w ∧ Fr 172 a [(5, vI (a1.length : Int)), (6, vv5)] ∧ Gd fI64 2 36 ρ w w0.heap.size 2 vv5 f6 s22 s23) ho20 ⟨_, hw, hf.sub ⟨rfl, rfl, rfl, rfl, rfl, trivial⟩, o2⟩ ?_ ?_)
  · rintro ⟨s21, s22, s23⟩ lr a w ⟨ρ, hw, hf, o2⟩ hF
    replace hF : impl_inverted_l20 a0 a1 s21 s22 s23 = some lr := hF
    unfold impl_inverted_l20 at hF
    refine c_seq <| c_region ?_
    refine s_ hf (r_lss hf rfl rfl) fun a hf => ?_
    refine c_nt <| c_seq ?_
    rcases of_ite hF with ⟨hb24, hF⟩ | ⟨hb24, hF⟩
    rotate_left
    · refine c_iff hf rfl hb24 <| c_exit <| x_then ?_
      obtain rfl := Option.some.inj hF
      exact Rnd.stops ⟨_, hw, hf.sub ⟨rfl, rfl, trivial⟩, o2⟩
    refine c_ift hf rfl hb24 <| c_skip <| n_then <| c_seq <| c_block <| c_seq <| c_region ?_
    refine s_ hf (r_move hf rfl) fun a hf => ?_
    refine sx_ hf (r_alloc (cs := [vI 0]) 9 ze3 rfl hw) fun a v w hf hΦ => ?_
    obtain ⟨g9, ρ, rfl, hw, hE, o9⟩ := hΦ
    replace o2 := o2.ext hE
    refine sk_ hf (r_store_w (cs' := [vI s21]) hw o9 (by decide) ty3 rfl rfl (one_one rfl) hf rfl rfl rfl) fun a w hf hΦ => ?_
    obtain ⟨hw, hA, o9⟩ := hΦ
    replace o2 := o2.adv hA (by decide) (fun _ => by unfold lab; omega)
    refine c_nt <| c_seq ?_
    obtain ⟨hc25, hF⟩ := of_guard hF
    obtain ⟨x26, hx27, hF⟩ := of_bind hF
    replace hf : Fr 172 a [(0, vI a0), (5, vI (a1.length : Int)), (6, vv5), (10, .pointer (some ((⟨g9, 0, none⟩ : Addr).add 0))), (43, vI (a1.length : Int)), (44, vI s21)] := hf.sub ⟨rfl, rfl, rfl, rfl, rfl, rfl, trivial⟩
    refine c_drawL (h := 6) mixed (by kernel_rfl) (by kernel_rfl) (fun ρ w => Gd fI64 2 36 ρ w w0.heap.size 2 vv5 f6 s22 s23 ∧ Va ρ w 9 g9 3 ([vI s21])) ?_ [fun ρ w v => vI s21 = v, fun ρ w v => vv5 = v, fun ρ w v => vI s21 = v, fun ρ w v => (cutV vv5 s21.toNat ((gi s22 s23).length : Int).toNat 1) = v ∧ Ro (Kd.slice 2 (kf fI64)) w (cutV vv5 s21.toNat ((gi s22 s23).length : Int).toNat 1) (((gi s22 s23).take ((gi s22 s23).length : Int).toNat).drop s21.toNat), fun ρ w v => .func (.func 109) #[] #[.pointer (some ((⟨g9, 0, none⟩ : Addr).add 0))] = v, fun ρ w v => vI x26 = v] ?_ hw ⟨o2, o9⟩ hf ?_ ?_
    · intro ρ w ρ' w' hE hG
      obtain ⟨o2, o9⟩ := hG
      exact ⟨o2.ext hE, o9.ext hE⟩
    · exact LastsL.cons (fun _ _ _ _ _ _ h => h) <| LastsL.cons (fun _ _ _ _ _ _ h => h) <| LastsL.cons (fun _ _ _ _ _ _ h => h) <| LastsL.cons (fun _ _ _ _ _ hE h => by obtain ⟨h, o10⟩ := h; exact ⟨h, o10.ext hE⟩) <| LastsL.cons (fun _ _ _ _ _ _ h => h) <| LastsL.cons (fun _ _ _ _ _ _ h => h) <| LastsL.nil
    · refine StepsB.cons ?_ <| StepsB.cons ?_ <| StepsB.cons ?_ <| StepsB.cons ?_ <| StepsB.cons ?_ <| StepsB.cons ?_ <| StepsB.nil
      · intro ρ w a hw hG hf hd K hK
        obtain ⟨o2, o9⟩ := hG
        exact dv_ hK hw (wn rfl) (r_load_cell ty3 hf rfl o9.cl) rfl
      · intro ρ w a hw hG hf hd K hK
        obtain ⟨o2, o9⟩ := hG
        exact dv_ hK hw (wn rfl) (r_move hf rfl) rfl
      · intro ρ w a hw hG hf hd K hK
        obtain ⟨o2, o9⟩ := hG
        exact dv_ hK hw (wn rfl) (r_load_cell ty3 hf rfl o9.cl) rfl
      · intro ρ w a hw hG hf hd K hK
        obtain ⟨o2, o9⟩ := hG
        obtain ⟨_, hf, rfl⟩ := got (hd 1 (by kernel_rfl)) hf
        obtain ⟨_, hf, rfl⟩ := got (hd 2 (by kernel_rfl)) hf
        have o10 : Ro (Kd.slice 2 (kf fI64)) w (cutV vv5 s21.toNat ((gi s22 s23).length : Int).toNat 1) (((gi s22 s23).take ((gi s22 s23).length : Int).toNat).drop s21.toNat) := ro_cutV o2.ro hc25.1 hc25.2 (Int.le_refl _)
        exact dv_ hK hw (wn rfl) (r_cut_v (lo := s21) (hi := ((gi s22 s23).length : Int)) Try.underlying24 sz36 rfl o2.ro hf rfl (.inr ⟨_, rfl, rfl⟩) (.inl ⟨rfl, rfl⟩) hc25.1 hc25.2 (Int.le_refl _)) (an_ rfl <| o10)
      · intro ρ w a hw hG hf hd K hK
        obtain ⟨o2, o9⟩ := hG
        exact dv_ hK hw (wn rfl) (r_mkfn hf rfl) rfl
      · intro ρ w a hw hG hf hd K hK
        obtain ⟨o2, o9⟩ := hG
        obtain ⟨_, hf, ⟨rfl, o10⟩⟩ := got (hd 3 (by kernel_rfl)) hf
        obtain ⟨_, hf, rfl⟩ := got (hd 4 (by kernel_rfl)) hf
        refine dc_ hK hw (wn rfl) (r_fn en108 hf rfl) (slices_IndexFunc_108_f109_ok o10 o9.cl hx27) fun v w' hΦ => ?_
        obtain ⟨hb, hΦ⟩ := hΦ
        obtain rfl := hΦ
        have hE := Ext.new (ρ := ρ) 11 hb
        exact ⟨_, hw.new 11 hb, hE, rfl⟩
    intro ρ w a hw hG hf hd
    obtain ⟨o2, o9⟩ := hG
    obtain ⟨_, hf, rfl⟩ := got (hd 0 (by decide)) hf
    obtain ⟨_, hf, rfl⟩ := got (hd 5 (by decide)) hf
    refine s_ hf (r_add hf rfl rfl) fun a hf => ?_
    refine s_ hf (r_assign hf rfl) fun a hf => ?_
    refine c_nt <| c_seq ?_
    obtain ⟨hc28, hF⟩ := of_guard hF
    obtain ⟨hc30, hF⟩ := of_guard hF
    replace hf : Fr 172 a [(0, vI a0), (5, vI (a1.length : Int)), (6, vv5), (10, .pointer (some ((⟨g9, 0, none⟩ : Addr).add 0))), (11, vI (w64 (s21 + x26))), (43, vI (a1.length : Int)), (44, vI s21)] := hf.sub ⟨rfl, rfl, rfl, rfl, rfl, rfl, rfl, trivial⟩
    refine c_stage 14 [13] mixed (by kernel_rfl) (by kernel_rfl) (fun c ρ w => Va ρ w 9 g9 3 ([vI s21]) ∧ (c ≤ 0 → Gd fI64 2 36 ρ w w0.heap.size 2 vv5 f6 s22 s23) ∧ (0 < c → Gd fI64 2 36 ρ w w0.heap.size 2 vv5 f6 (s22.set s21.toNat (gl 0 s22 (w64 (s21 + x26)))) s23)) ?_ [fun c ρ w v => vv5 = v, fun c ρ w v => vI s21 = v, fun c ρ w v => vv5 = v, fun c ρ w v => vI (w64 (s21 + x26)) = v, fun c ρ w v => vv5 = v, fun c ρ w v => vI (w64 (s21 + x26)) = v, fun c ρ w v => ∃ ad29, .pointer (some (ad29.add ((w64 (s21 + x26)).toNat * 1))) = v ∧ (gl 0 s22 (w64 (s21 + x26))) < s23.length ∧ (c ≤ 0 → Ce ρ w 2 vv5 s22.length ad29 ((w64 (s21 + x26)).toNat * 1) ([(f6 (gl 0 s22 (w64 (s21 + x26)))).1])), fun c ρ w v => (f6 (gl 0 s22 (w64 (s21 + x26)))).1 = v ∧ (gl 0 s22 (w64 (s21 + x26))) < s23.length, fun c ρ w v => vv5 = v, fun c ρ w v => vI s21 = v, fun c ρ w v => ∃ ad31, .pointer (some (ad31.add (s21.toNat * 1))) = v ∧ (gl 0 s22 s21) < s23.length ∧ (c ≤ 0 → Ce ρ w 2 vv5 s22.length ad31 (s21.toNat * 1) ([(f6 (gl 0 s22 s21)).1])), fun c ρ w v => (f6 (gl 0 s22 s21)).1 = v ∧ (gl 0 s22 s21) < s23.length, fun c ρ w v => ∃ ad32, .pointer (some (ad32.add (s21.toNat * 1))) = v ∧ (gl 0 s22 s21) < s23.length ∧ (c ≤ 0 → Ce ρ w 2 vv5 s22.length ad32 (s21.toNat * 1) ([(f6 (gl 0 s22 s21)).1])), fun _ _ _ _ => True] ?_ hw ⟨o9, (fun _ => o2), (fun h => absurd h (Nat.not_lt_zero _))⟩ hf ?_ ?_
    · intro c ρ w ρ' w' hE hG
      obtain ⟨o9, o2x, o2y⟩ := hG
      exact ⟨o9.ext hE, (fun h => (o2x h).ext hE), (fun h => by obtain o2 := o2y h; exact o2.ext hE)⟩
    · exact LastsS.cons (fun _ _ _ _ _ _ _ h => h) <| LastsS.cons (fun _ _ _ _ _ _ _ h => h) <| LastsS.cons (fun _ _ _ _ _ _ _ h => h) <| LastsS.cons (fun _ _ _ _ _ _ _ h => h) <| LastsS.cons (fun _ _ _ _ _ _ _ h => h) <| LastsS.cons (fun _ _ _ _ _ _ _ h => h) <| LastsS.cons (fun c _ _ _ _ _ hE h => by obtain ⟨ad29, h, hn29, hl29⟩ := h; exact ⟨_, h, hn29, (fun h => (hl29 h).ext hE)⟩) <| LastsS.cons (fun c _ _ _ _ _ hE h => by obtain ⟨h, hn29⟩ := h; exact ⟨h, hn29⟩) <| LastsS.cons (fun _ _ _ _ _ _ _ h => h) <| LastsS.cons (fun _ _ _ _ _ _ _ h => h) <| LastsS.cons (fun c _ _ _ _ _ hE h => by obtain ⟨ad31, h, hn31, hl31⟩ := h; exact ⟨_, h, hn31, (fun h => (hl31 h).ext hE)⟩) <| LastsS.cons (fun c _ _ _ _ _ hE h => by obtain ⟨h, hn31⟩ := h; exact ⟨h, hn31⟩) <| LastsS.cons (fun c _ _ _ _ _ hE h => by obtain ⟨ad32, h, hn32, hl32⟩ := h; exact ⟨_, h, hn32, (fun h => (hl32 h).ext hE)⟩) <| LastsS.cons (fun _ _ _ _ _ _ _ h => h) <| LastsS.nil
    · refine StepsS.float rfl ?_ <| StepsS.float rfl ?_ <| StepsS.float rfl ?_ <| StepsS.float rfl ?_ <| StepsS.float rfl ?_ <| StepsS.float rfl ?_ <| StepsS.float rfl ?_ <| StepsS.float rfl ?_ <| StepsS.float rfl ?_ <| StepsS.float rfl ?_ <| StepsS.float rfl ?_ <| StepsS.float rfl ?_ <| StepsS.float rfl ?_ <| StepsS.main 0 rfl rfl ?_ <| StepsS.nil
      · intro c ρ w a hs hw hG hf hd K hK
        obtain ⟨o9, o2x, o2y⟩ := hG
        have o2 := o2x (hs 0 (by decide) (by kernel_rfl))
        exact dv_ hK hw (wn rfl) (r_move hf rfl) rfl
      · intro c ρ w a hs hw hG hf hd K hK
        obtain ⟨o9, o2x, o2y⟩ := hG
        have o2 := o2x (hs 0 (by decide) (by kernel_rfl))
        exact dv_ hK hw (wn rfl) (r_load_cell ty3 hf rfl o9.cl) rfl
      · intro c ρ w a hs hw hG hf hd K hK
        obtain ⟨o9, o2x, o2y⟩ := hG
        exact dv_ hK hw (wn rfl) (r_move hf rfl) rfl
      · intro c ρ w a hs hw hG hf hd K hK
        obtain ⟨o9, o2x, o2y⟩ := hG
        exact dv_ hK hw (wn rfl) (r_move hf rfl) rfl
      · intro c ρ w a hs hw hG hf hd K hK
        obtain ⟨o9, o2x, o2y⟩ := hG
        have o2 := o2x (hs 0 (by decide) (by kernel_rfl))
        exact dv_ hK hw (wn rfl) (r_move hf rfl) rfl
      · intro c ρ w a hs hw hG hf hd K hK
        obtain ⟨o9, o2x, o2y⟩ := hG
        have o2 := o2x (hs 0 (by decide) (by kernel_rfl))
        exact dv_ hK hw (wn rfl) (r_move hf rfl) rfl
      · intro c ρ w a hs hw hG hf hd K hK
        obtain ⟨o9, o2x, o2y⟩ := hG
        have o2 := o2x (hs 0 (by decide) (by kernel_rfl))
        obtain ⟨_, ht4, rfl⟩ := hd 4 (by kernel_rfl) (by kernel_rfl)
        replace hf := hf.more ht4
        obtain ⟨_, ht5, rfl⟩ := hd 5 (by kernel_rfl) (by kernel_rfl)
        replace hf := hf.more ht5
        obtain ⟨ad29, hl29⟩ := Ow.ce (d := fRef f6) o2.out 0 hc28.1 hc28.2
        have hn29 := o2.lt_gl hc28.1 hc28.2
        exact dv_ hK hw (wn rfl) (r_idx Try.underlying24 sz36 hf rfl hl29.at_ rfl hc28.1 hc28.2) (ex_ <| an_ rfl <| an_ hn29 <| fun _ => hl29)
      · intro c ρ w a hs hw hG hf hd K hK
        obtain ⟨o9, o2x, o2y⟩ := hG
        have o2 := o2x (hs 0 (by decide) (by kernel_rfl))
        obtain ⟨_, ht6, ⟨ad29, rfl, hn29, hl29⟩⟩ := hd 6 (by kernel_rfl) (by kernel_rfl)
        replace hl29 := hl29 (hs 0 (by decide) (by kernel_rfl))
        replace hf := hf.more ht6
        exact dv_ hK hw (wn rfl) (r_load_cell ty36 hf rfl hl29.co.cl) (an_ rfl <| hn29)
      · intro c ρ w a hs hw hG hf hd K hK
        obtain ⟨o9, o2x, o2y⟩ := hG
        exact dv_ hK hw (wn rfl) (r_move hf rfl) rfl
      · intro c ρ w a hs hw hG hf hd K hK
        obtain ⟨o9, o2x, o2y⟩ := hG
        exact dv_ hK hw (wn rfl) (r_load_cell ty3 hf rfl o9.cl) rfl
      · intro c ρ w a hs hw hG hf hd K hK
        obtain ⟨o9, o2x, o2y⟩ := hG
        have o2 := o2x (hs 0 (by decide) (by kernel_rfl))
        obtain ⟨_, ht8, rfl⟩ := hd 8 (by kernel_rfl) (by kernel_rfl)
        replace hf := hf.more ht8
        obtain ⟨_, ht9, rfl⟩ := hd 9 (by kernel_rfl) (by kernel_rfl)
        replace hf := hf.more ht9
        obtain ⟨ad31, hl31⟩ := Ow.ce (d := fRef f6) o2.out 0 hc30.1 hc30.2
        have hn31 := o2.lt_gl hc30.1 hc30.2
        exact dv_ hK hw (wn rfl) (r_idx Try.underlying24 sz36 hf rfl hl31.at_ rfl hc30.1 hc30.2) (ex_ <| an_ rfl <| an_ hn31 <| fun _ => hl31)
      · intro c ρ w a hs hw hG hf hd K hK
        obtain ⟨o9, o2x, o2y⟩ := hG
        have o2 := o2x (hs 0 (by decide) (by kernel_rfl))
        obtain ⟨_, ht10, ⟨ad31, rfl, hn31, hl31⟩⟩ := hd 10 (by kernel_rfl) (by kernel_rfl)
        replace hl31 := hl31 (hs 0 (by decide) (by kernel_rfl))
        replace hf := hf.more ht10
        exact dv_ hK hw (wn rfl) (r_load_cell ty36 hf rfl hl31.co.cl) (an_ rfl <| hn31)
      · intro c ρ w a hs hw hG hf hd K hK
        obtain ⟨o9, o2x, o2y⟩ := hG
        have o2 := o2x (hs 0 (by decide) (by kernel_rfl))
        obtain ⟨_, ht0, rfl⟩ := hd 0 (by kernel_rfl) (by kernel_rfl)
        replace hf := hf.more ht0
        obtain ⟨_, ht1, rfl⟩ := hd 1 (by kernel_rfl) (by kernel_rfl)
        replace hf := hf.more ht1
        obtain ⟨ad32, hl32⟩ := Ow.ce (d := fRef f6) o2.out 0 hc30.1 hc30.2
        have hn32 := o2.lt_gl hc30.1 hc30.2
        exact dv_ hK hw (wn rfl) (r_idx Try.underlying24 sz36 hf rfl hl32.at_ rfl hc30.1 hc30.2) (ex_ <| an_ rfl <| an_ hn32 <| fun _ => hl32)
      · intro ρ w a S hw hG hf hS hdep hSi K hK
        obtain ⟨o9, o2x, o2y⟩ := hG
        have hfL := hf
        have o2 := o2x (by decide)
        obtain ⟨_, ht7, ⟨rfl, hn29⟩⟩ := hS 7 (by decide) (hdep 7 (by kernel_rfl)) (by kernel_rfl)
        replace hf := hf.more ht7
        obtain ⟨_, ht12, ⟨ad32, rfl, hn32, hl32⟩⟩ := hS 12 (by decide) (hdep 12 (by kernel_rfl)) (by kernel_rfl)
        replace hl32 := hl32 (by decide)
        replace hf := hf.more ht12
        refine m_skip (Γ := fun c ρ w => Va ρ w 9 g9 3 ([vI s21]) ∧ (c ≤ 0 → Gd fI64 2 36 ρ w w0.heap.size 2 vv5 f6 s22 s23) ∧ (0 < c → Gd fI64 2 36 ρ w w0.heap.size 2 vv5 f6 (s22.set s21.toNat (gl 0 s22 (w64 (s21 + x26)))) s23)) (Rl := [fun c ρ w v => vv5 = v, fun c ρ w v => vI s21 = v, fun c ρ w v => vv5 = v, fun c ρ w v => vI (w64 (s21 + x26)) = v, fun c ρ w v => vv5 = v, fun c ρ w v => vI (w64 (s21 + x26)) = v, fun c ρ w v => ∃ ad29, .pointer (some (ad29.add ((w64 (s21 + x26)).toNat * 1))) = v ∧ (gl 0 s22 (w64 (s21 + x26))) < s23.length ∧ (c ≤ 0 → Ce ρ w 2 vv5 s22.length ad29 ((w64 (s21 + x26)).toNat * 1) ([(f6 (gl 0 s22 (w64 (s21 + x26)))).1])), fun c ρ w v => (f6 (gl 0 s22 (w64 (s21 + x26)))).1 = v ∧ (gl 0 s22 (w64 (s21 + x26))) < s23.length, fun c ρ w v => vv5 = v, fun c ρ w v => vI s21 = v, fun c ρ w v => ∃ ad31, .pointer (some (ad31.add (s21.toNat * 1))) = v ∧ (gl 0 s22 s21) < s23.length ∧ (c ≤ 0 → Ce ρ w 2 vv5 s22.length ad31 (s21.toNat * 1) ([(f6 (gl 0 s22 s21)).1])), fun c ρ w v => (f6 (gl 0 s22 s21)).1 = v ∧ (gl 0 s22 s21) < s23.length, fun c ρ w v => ∃ ad32, .pointer (some (ad32.add (s21.toNat * 1))) = v ∧ (gl 0 s22 s21) < s23.length ∧ (c ≤ 0 → Ce ρ w 2 vv5 s22.length ad32 (s21.toNat * 1) ([(f6 (gl 0 s22 s21)).1])), fun _ _ _ _ => True]) hfL hS (by kernel_rfl) rfl (wn rfl) (r_gset (p := s21) hw o2 hn29 hc30.1 hc30.2 hl32.at_ ty36 rfl hf rfl rfl) (fun w' hΦ => ?_) hK
        obtain ⟨hw, hA, o2⟩ := hΦ
        replace o9 := o9.adv hA (by decide)
        refine ⟨_, hw, ⟨o9, (fun h => absurd h (by decide)), (fun _ => o2)⟩, ?_⟩
        · exact PassL.cons (fun h => h) <| PassL.cons (fun h => h) <| PassL.cons (fun h => h) <| PassL.cons (fun h => h) <| PassL.cons (fun h => h) <| PassL.cons (fun h => h) <| PassL.cons (fun h => by obtain ⟨_, ht, ad29, h, hn29, hl29⟩ := h; exact ⟨_, ht, _, h, hn29, (fun h => absurd h (by decide))⟩) <| PassL.cons (fun h => by obtain ⟨_, ht, h, hn29⟩ := h; exact ⟨_, ht, h, hn29⟩) <| PassL.cons (fun h => h) <| PassL.cons (fun h => h) <| PassL.cons (fun h => by obtain ⟨_, ht, ad31, h, hn31, hl31⟩ := h; exact ⟨_, ht, _, h, hn31, (fun h => absurd h (by decide))⟩) <| PassL.cons (fun h => by obtain ⟨_, ht, h, hn31⟩ := h; exact ⟨_, ht, h, hn31⟩) <| PassL.cons (fun h => by obtain ⟨_, ht, ad32, h, hn32, hl32⟩ := h; exact ⟨_, ht, _, h, hn32, (fun h => absurd h (by decide))⟩) <| PassL.here <| PassL.nil
    intro ρ w a hw hG hf hd
    obtain ⟨o9, o2x, o2y⟩ := hG
    obtain o2 := o2y (by decide)
    obtain ⟨_, hf, rfl⟩ := got (hd 2 (by decide) (by kernel_rfl)) hf
    obtain ⟨_, hf, rfl⟩ := got (hd 3 (by decide) (by kernel_rfl)) hf
    obtain ⟨_, hf, ⟨rfl, hn31⟩⟩ := got (hd 11 (by decide) (by kernel_rfl)) hf
    obtain ⟨hc33, hF⟩ := of_guard hF
    obtain ⟨ad34, hl34⟩ := Ow.ce (d := fRef f6) o2.out 0 hc33.1 hc33.2
    have hn34 := o2.lt_gl hc33.1 hc33.2
    refine s_ hf (r_idx Try.underlying24 sz36 hf rfl hl34.at_ rfl hc33.1 hc33.2) fun a hf => ?_
    refine sk_ hf (r_gset (p := w64 (s21 + x26)) hw o2 hn31 hc33.1 hc33.2 hl34.at_ ty36 rfl hf rfl rfl) fun a w hf hΦ => ?_
    obtain ⟨hw, hA, o2⟩ := hΦ
    replace o9 := o9.adv hA (by decide)
    refine c_nt <| c_seq ?_
    obtain ⟨hc35, hF⟩ := of_guard hF
    obtain ⟨hc37, hF⟩ := of_guard hF
    replace hf : Fr 172 a [(0, vI a0), (5, vI (a1.length : Int)), (6, vv5), (10, .pointer (some ((⟨g9, 0, none⟩ : Addr).add 0))), (43, vI (a1.length : Int)), (44, vI s21)] := hf.sub ⟨rfl, rfl, rfl, rfl, rfl, rfl, trivial⟩
    refine c_drawL (h := 8) mixed (by kernel_rfl) (by kernel_rfl) (fun ρ w => Gd fI64 2 36 ρ w w0.heap.size 2 vv5 f6 ((s22.set s21.toNat (gl 0 s22 (w64 (s21 + x26)))).set (w64 (s21 + x26)).toNat (gl 0 s22 s21)) s23 ∧ Va ρ w 9 g9 3 ([vI s21])) ?_ [fun ρ w v => vI a0 = v, fun ρ w v => vv5 = v, fun ρ w v => vI s21 = v, fun ρ w v => ∃ ad36, .pointer (some (ad36.add (s21.toNat * 1))) = v ∧ (gl 0 ((s22.set s21.toNat (gl 0 s22 (w64 (s21 + x26)))).set (w64 (s21 + x26)).toNat (gl 0 s22 s21)) s21) < s23.length ∧ Ce ρ w 2 vv5 (((s22.set s21.toNat (gl 0 s22 (w64 (s21 + x26)))).set (w64 (s21 + x26)).toNat (gl 0 s22 s21)).length) ad36 (s21.toNat * 1) ([(f6 (gl 0 ((s22.set s21.toNat (gl 0 s22 (w64 (s21 + x26)))).set (w64 (s21 + x26)).toNat (gl 0 s22 s21)) s21)).1]), fun ρ w v => (f6 (gl 0 ((s22.set s21.toNat (gl 0 s22 (w64 (s21 + x26)))).set (w64 (s21 + x26)).toNat (gl 0 s22 s21)) s21)).1 = v ∧ (gl 0 ((s22.set s21.toNat (gl 0 s22 (w64 (s21 + x26)))).set (w64 (s21 + x26)).toNat (gl 0 s22 s21)) s21) < s23.length, fun ρ w v => vI s21 = v, fun ρ w v => ∃ ad38, .pointer (some (ad38.add (s21.toNat * 1))) = v ∧ Ce ρ w (lab 2 (gl 0 ((s22.set s21.toNat (gl 0 s22 (w64 (s21 + x26)))).set (w64 (s21 + x26)).toNat (gl 0 s22 s21)) s21)) ((f6 (gl 0 ((s22.set s21.toNat (gl 0 s22 (w64 (s21 + x26)))).set (w64 (s21 + x26)).toNat (gl 0 s22 s21)) s21)).1) ((s23.getD (gl 0 ((s22.set s21.toNat (gl 0 s22 (w64 (s21 + x26)))).set (w64 (s21 + x26)).toNat (gl 0 s22 s21)) s21) []).length) ad38 (s21.toNat * 1) (fI64.enc (gl 0 (s23.getD (gl 0 ((s22.set s21.toNat (gl 0 s22 (w64 (s21 + x26)))).set (w64 (s21 + x26)).toNat (gl 0 s22 s21)) s21) []) s21)), fun ρ w v => vI (gl 0 (s23.getD (gl 0 ((s22.set s21.toNat (gl 0 s22 (w64 (s21 + x26)))).set (w64 (s21 + x26)).toNat (gl 0 s22 s21)) s21) []) s21) = v] ?_ hw ⟨o2, o9⟩ hf ?_ ?_
    · intro ρ w ρ' w' hE hG
      obtain ⟨o2, o9⟩ := hG
      exact ⟨o2.ext hE, o9.ext hE⟩
    · exact LastsL.cons (fun _ _ _ _ _ _ h => h) <| LastsL.cons (fun _ _ _ _ _ _ h => h) <| LastsL.cons (fun _ _ _ _ _ _ h => h) <| LastsL.cons (fun _ _ _ _ _ hE h => by obtain ⟨ad36, h, hn36, hl36⟩ := h; exact ⟨_, h, hn36, hl36.ext hE⟩) <| LastsL.cons (fun _ _ _ _ _ hE h => by obtain ⟨h, hn36⟩ := h; exact ⟨h, hn36⟩) <| LastsL.cons (fun _ _ _ _ _ _ h => h) <| LastsL.cons (fun _ _ _ _ _ hE h => by obtain ⟨ad38, h, hl38⟩ := h; exact ⟨_, h, hl38.ext hE⟩) <| LastsL.cons (fun _ _ _ _ _ _ h => h) <| LastsL.nil
    · refine StepsB.cons ?_ <| StepsB.cons ?_ <| StepsB.cons ?_ <| StepsB.cons ?_ <| StepsB.cons ?_ <| StepsB.cons ?_ <| StepsB.cons ?_ <| StepsB.cons ?_ <| StepsB.nil
      · intro ρ w a hw hG hf hd K hK
        obtain ⟨o2, o9⟩ := hG
        exact dv_ hK hw (wn rfl) (r_move hf rfl) rfl
      · intro ρ w a hw hG hf hd K hK
        obtain ⟨o2, o9⟩ := hG
        exact dv_ hK hw (wn rfl) (r_move hf rfl) rfl
      · intro ρ w a hw hG hf hd K hK
        obtain ⟨o2, o9⟩ := hG
        exact dv_ hK hw (wn rfl) (r_load_cell ty3 hf rfl o9.cl) rfl
      · intro ρ w a hw hG hf hd K hK
        obtain ⟨o2, o9⟩ := hG
        obtain ⟨_, hf, rfl⟩ := got (hd 1 (by kernel_rfl)) hf
        obtain ⟨_, hf, rfl⟩ := got (hd 2 (by kernel_rfl)) hf
        obtain ⟨ad36, hl36⟩ := Ow.ce (d := fRef f6) o2.out 0 hc35.1 hc35.2
        have hn36 := o2.lt_gl hc35.1 hc35.2
        exact dv_ hK hw (wn rfl) (r_idx Try.underlying24 sz36 hf rfl hl36.at_ rfl hc35.1 hc35.2) (ex_ <| an_ rfl <| an_ hn36 <| hl36)
      · intro ρ w a hw hG hf hd K hK
        obtain ⟨o2, o9⟩ := hG
        obtain ⟨_, hf, ⟨ad36, rfl, hn36, hl36⟩⟩ := got (hd 3 (by kernel_rfl)) hf
        exact dv_ hK hw (wn rfl) (r_load_cell ty36 hf rfl hl36.co.cl) (an_ rfl <| hn36)
      · intro ρ w a hw hG hf hd K hK
        obtain ⟨o2, o9⟩ := hG
        exact dv_ hK hw (wn rfl) (r_load_cell ty3 hf rfl o9.cl) rfl
      · intro ρ w a hw hG hf hd K hK
        obtain ⟨o2, o9⟩ := hG
        obtain ⟨_, hf, ⟨rfl, hn36⟩⟩ := got (hd 4 (by kernel_rfl)) hf
        obtain ⟨_, hf, rfl⟩ := got (hd 5 (by kernel_rfl)) hf
        obtain ⟨ad38, hl38⟩ := Ow.ce (d := fI64) (o2.rowAt hn36) 0 hc37.1 hc37.2
        exact dv_ hK hw (wn rfl) (r_idx Try.underlying36 sz2 hf rfl hl38.at_ rfl hc37.1 hc37.2) (ex_ <| an_ rfl <| hl38)
      · intro ρ w a hw hG hf hd K hK
        obtain ⟨o2, o9⟩ := hG
        obtain ⟨_, hf, ⟨ad38, rfl, hl38⟩⟩ := got (hd 6 (by kernel_rfl)) hf
        exact dv_ hK hw (wn rfl) (r_load_cell ty2 hf rfl hl38.co.cl) rfl
    intro ρ w a hw hG hf hd
    obtain ⟨o2, o9⟩ := hG
    obtain ⟨_, hf, rfl⟩ := got (hd 0 (by decide)) hf
    obtain ⟨_, hf, rfl⟩ := got (hd 7 (by decide)) hf
    obtain ⟨x39, hx40, hF⟩ := of_bind hF
    refine st_fn 23 hw hf rfl rfl (by decide) (r_fn en110 hf rfl) (impl_inverse_ok  hx40) fun a v w ρ hf hw hE hN hΦ => ?_
    obtain rfl := hΦ
    replace o2 := o2.ext hE
    replace o9 := o9.ext hE
    refine s_ hf (r_assign hf rfl) fun a hf => ?_
    refine c_nt <| c_seq <| c_seq <| c_region ?_
    refine s_ hf (r_move hf rfl) fun a hf => ?_
    refine s_ hf (r_load_cell ty3 hf rfl o9.cl) fun a hf => ?_
    obtain ⟨ad41, hl41⟩ := Ow.ce (d := fRef f6) o2.out 0 hc35.1 hc35.2
    have hn41 := o2.lt_gl hc35.1 hc35.2
    refine s_ hf (r_idx Try.underlying24 sz36 hf rfl hl41.at_ rfl hc35.1 hc35.2) fun a hf => ?_
    refine s_ hf (r_load_cell ty36 hf rfl hl41.co.cl) fun a hf => ?_
    refine s_ hf (r_len Try.underlying36 ((o2.rowAt hn41).ro) hf rfl) fun a hf => ?_
    refine s_ hf (r_move hf rfl) fun a hf => ?_
    refine c_nt ?_
    obtain ⟨ol42, ho42, hG42⟩ := of_bind hF
    clear hF
    refine c_block (c_loop (id := 4) (fun s => impl_inverted_l42 a0 s21 s22 s23 x26 x39 s.1 s.2) (fun (s : Int × (List (List Int))) a w => match s with | (s43, s44) => ∃ ρ, Wd w0 ρ w ∧ Fr 172 a [(0, vI a0), (5, vI (a1.length : Int)), (6, vv5), (10, .pointer (some ((⟨g9, 0, none⟩ : Addr).add 0))), (12, vI x39), (43, vI (a1.length : Int)), (44, vI s21), (81, vI ((s23.getD (gl 0 ((s22.set s21.toNat (gl 0 s22 (w64 (s21 + x26)))).set (w64 (s21 + x26)).toNat (gl 0 s22 s21)) s21) []).length : Int)), (82, vI s43)] ∧ Gd fI64 2 36 ρ w w0.heap.size 2 vv5 f6 ((s22.set s21.toNat (gl 0 s22 (w64 (s21 + x26)))).set (w64 (s21 + x26)).toNat (gl 0 s22 s21)) s44 ∧ Va ρ w 9 g9 3 ([vI s21])) (fun (s : Int × (List (List Int))) a w => match s with | (s43, s44) => ∃ ρ, Wd w0 ρ w ∧ Fr 172 a [(0, vI a0), (5, vI (a1.length : Int)), (6, vv5), (10, .pointer (some ((⟨g9, 0, none⟩ : Addr).add 0))), (43, vI (a1.length : Int)), (44, vI s21)] ∧ Gd fI64 2 36 ρ w w0.heap.size 2 vv5 f6 ((s22.set s21.toNat (gl 0 s22 (w64 (s21 + x26)))).set (w64 (s21 + x26)).toNat (gl 0 s22 s21)) s44 ∧ Va ρ w 9 g9 3 ([vI s21])) ho42 ⟨_, hw, hf.sub ⟨rfl, rfl, rfl, rfl, rfl, rfl, rfl, rfl, rfl, trivial⟩, o2, o9⟩ ?_ ?_)
    · rintro ⟨s43, s44⟩ lr a w ⟨ρ, hw, hf, o2, o9⟩ hF
      replace hF : impl_inverted_l42 a0 s21 s22 s23 x26 x39 s43 s44 = some lr := hF
      unfold impl_inverted_l42 at hF
      refine c_seq <| c_region ?_
      refine s_ hf (r_lss hf rfl rfl) fun a hf => ?_
      refine c_nt <| c_seq ?_
      rcases of_ite hF with ⟨hb45, hF⟩ | ⟨hb45, hF⟩
      rotate_left
      · refine c_iff hf rfl hb45 <| c_exit <| x_then ?_
        obtain rfl := Option.some.inj hF
        exact Rnd.stops ⟨_, hw, hf.sub ⟨rfl, rfl, rfl, rfl, rfl, rfl, trivial⟩, o2, o9⟩
      refine c_ift hf rfl hb45 <| c_skip <| n_then <| c_seq <| c_block <| c_seq <| c_region ?_
      refine s_ hf (r_move hf rfl) fun a hf => ?_
      refine s_ hf (r_assign hf rfl) fun a hf => ?_
      refine c_nt ?_
      obtain ⟨hc48, hF⟩ := of_guard hF
      obtain ⟨hc50, hF⟩ := of_guard hF
      replace hf : Fr 172 a [(0, vI a0), (5, vI (a1.length : Int)), (6, vv5), (10, .pointer (some ((⟨g9, 0, none⟩ : Addr).add 0))), (12, vI x39), (13, vI s43), (43, vI (a1.length : Int)), (44, vI s21), (81, vI ((s23.getD (gl 0 ((s22.set s21.toNat (gl 0 s22 (w64 (s21 + x26)))).set (w64 (s21 + x26)).toNat (gl 0 s22 s21)) s21) []).length : Int)), (82, vI s43)] := hf.sub ⟨rfl, rfl, rfl, rfl, rfl, rfl, rfl, rfl, rfl, rfl, trivial⟩
      refine c_drawL (h := 16) mixed (by kernel_rfl) (by kernel_rfl) (fun ρ w => Gd fI64 2 36 ρ w w0.heap.size 2 vv5 f6 ((s22.set s21.toNat (gl 0 s22 (w64 (s21 + x26)))).set (w64 (s21 + x26)).toNat (gl 0 s22 s21)) s44 ∧ Va ρ w 9 g9 3 ([vI s21])) ?_ [fun ρ w v => vv5 = v, fun ρ w v => vI s21 = v, fun ρ w v => ∃ ad46, .pointer (some (ad46.add (s21.toNat * 1))) = v ∧ (gl 0 ((s22.set s21.toNat (gl 0 s22 (w64 (s21 + x26)))).set (w64 (s21 + x26)).toNat (gl 0 s22 s21)) s21) < s44.length ∧ Ce ρ w 2 vv5 (((s22.set s21.toNat (gl 0 s22 (w64 (s21 + x26)))).set (w64 (s21 + x26)).toNat (gl 0 s22 s21)).length) ad46 (s21.toNat * 1) ([(f6 (gl 0 ((s22.set s21.toNat (gl 0 s22 (w64 (s21 + x26)))).set (w64 (s21 + x26)).toNat (gl 0 s22 s21)) s21)).1]), fun ρ w v => (f6 (gl 0 ((s22.set s21.toNat (gl 0 s22 (w64 (s21 + x26)))).set (w64 (s21 + x26)).toNat (gl 0 s22 s21)) s21)).1 = v ∧ (gl 0 ((s22.set s21.toNat (gl 0 s22 (w64 (s21 + x26)))).set (w64 (s21 + x26)).toNat (gl 0 s22 s21)) s21) < s44.length, fun ρ w v => vI s43 = v, fun ρ w v => vv5 = v, fun ρ w v => vI s21 = v, fun ρ w v => ∃ ad47, .pointer (some (ad47.add (s21.toNat * 1))) = v ∧ (gl 0 ((s22.set s21.toNat (gl 0 s22 (w64 (s21 + x26)))).set (w64 (s21 + x26)).toNat (gl 0 s22 s21)) s21) < s44.length ∧ Ce ρ w 2 vv5 (((s22.set s21.toNat (gl 0 s22 (w64 (s21 + x26)))).set (w64 (s21 + x26)).toNat (gl 0 s22 s21)).length) ad47 (s21.toNat * 1) ([(f6 (gl 0 ((s22.set s21.toNat (gl 0 s22 (w64 (s21 + x26)))).set (w64 (s21 + x26)).toNat (gl 0 s22 s21)) s21)).1]), fun ρ w v => (f6 (gl 0 ((s22.set s21.toNat (gl 0 s22 (w64 (s21 + x26)))).set (w64 (s21 + x26)).toNat (gl 0 s22 s21)) s21)).1 = v ∧ (gl 0 ((s22.set s21.toNat (gl 0 s22 (w64 (s21 + x26)))).set (w64 (s21 + x26)).toNat (gl 0 s22 s21)) s21) < s44.length, fun ρ w v => vI s43 = v, fun ρ w v => ∃ ad49, .pointer (some (ad49.add (s43.toNat * 1))) = v ∧ Ce ρ w (lab 2 (gl 0 ((s22.set s21.toNat (gl 0 s22 (w64 (s21 + x26)))).set (w64 (s21 + x26)).toNat (gl 0 s22 s21)) s21)) ((f6 (gl 0 ((s22.set s21.toNat (gl 0 s22 (w64 (s21 + x26)))).set (w64 (s21 + x26)).toNat (gl 0 s22 s21)) s21)).1) ((s44.getD (gl 0 ((s22.set s21.toNat (gl 0 s22 (w64 (s21 + x26)))).set (w64 (s21 + x26)).toNat (gl 0 s22 s21)) s21) []).length) ad49 (s43.toNat * 1) (fI64.enc (gl 0 (s44.getD (gl 0 ((s22.set s21.toNat (gl 0 s22 (w64 (s21 + x26)))).set (w64 (s21 + x26)).toNat (gl 0 s22 s21)) s21) []) s43)), fun ρ w v => vI (gl 0 (s44.getD (gl 0 ((s22.set s21.toNat (gl 0 s22 (w64 (s21 + x26)))).set (w64 (s21 + x26)).toNat (gl 0 s22 s21)) s21) []) s43) = v, fun ρ w v => vI x39 = v, fun ρ w v => vI (w64 ((gl 0 (s44.getD (gl 0 ((s22.set s21.toNat (gl 0 s22 (w64 (s21 + x26)))).set (w64 (s21 + x26)).toNat (gl 0 s22 s21)) s21) []) s43) * x39)) = v, fun ρ w v => vI a0 = v, fun ρ w v => vI ((w64 ((gl 0 (s44.getD (gl 0 ((s22.set s21.toNat (gl 0 s22 (w64 (s21 + x26)))).set (w64 (s21 + x26)).toNat (gl 0 s22 s21)) s21) []) s43) * x39)).tmod a0) = v] ?_ hw ⟨o2, o9⟩ hf ?_ ?_
      · intro ρ w ρ' w' hE hG
        obtain ⟨o2, o9⟩ := hG
        exact ⟨o2.ext hE, o9.ext hE⟩
      · exact LastsL.cons (fun _ _ _ _ _ _ h => h) <| LastsL.cons (fun _ _ _ _ _ _ h => h) <| LastsL.cons (fun _ _ _ _ _ hE h => by obtain ⟨ad46, h, hn46, hl46⟩ := h; exact ⟨_, h, hn46, hl46.ext hE⟩) <| LastsL.cons (fun _ _ _ _ _ hE h => by obtain ⟨h, hn46⟩ := h; exact ⟨h, hn46⟩) <| LastsL.cons (fun _ _ _ _ _ _ h => h) <| LastsL.cons (fun _ _ _ _ _ _ h => h) <| LastsL.cons (fun _ _ _ _ _ _ h => h) <| LastsL.cons (fun _ _ _ _ _ hE h => by obtain ⟨ad47, h, hn47, hl47⟩ := h; exact ⟨_, h, hn47, hl47.ext hE⟩) <| LastsL.cons (fun _ _ _ _ _ hE h => by obtain ⟨h, hn47⟩ := h; exact ⟨h, hn47⟩) <| LastsL.cons (fun _ _ _ _ _ _ h => h) <| LastsL.cons (fun _ _ _ _ _ hE h => by obtain ⟨ad49, h, hl49⟩ := h; exact ⟨_, h, hl49.ext hE⟩) <| LastsL.cons (fun _ _ _ _ _ _ h => h) <| LastsL.cons (fun _ _ _ _ _ _ h => h) <| LastsL.cons (fun _ _ _ _ _ _ h => h) <| LastsL.cons (fun _ _ _ _ _ _ h => h) <| LastsL.cons (fun _ _ _ _ _ _ h => h) <| LastsL.nil
      · refine StepsB.cons ?_ <| StepsB.cons ?_ <| StepsB.cons ?_ <| StepsB.cons ?_ <| StepsB.cons ?_ <| StepsB.cons ?_ <| StepsB.cons ?_ <| StepsB.cons ?_ <| StepsB.cons ?_ <| StepsB.cons ?_ <| StepsB.cons ?_ <| StepsB.cons ?_ <| StepsB.cons ?_ <| StepsB.cons ?_ <| StepsB.cons ?_ <| StepsB.cons ?_ <| StepsB.nil
        · intro ρ w a hw hG hf hd K hK
          obtain ⟨o2, o9⟩ := hG
          exact dv_ hK hw (wn rfl) (r_move hf rfl) rfl
        · intro ρ w a hw hG hf hd K hK
          obtain ⟨o2, o9⟩ := hG
          exact dv_ hK hw (wn rfl) (r_load_cell ty3 hf rfl o9.cl) rfl
        · intro ρ w a hw hG hf hd K hK
          obtain ⟨o2, o9⟩ := hG
          obtain ⟨_, hf, rfl⟩ := got (hd 0 (by kernel_rfl)) hf
          obtain ⟨_, hf, rfl⟩ := got (hd 1 (by kernel_rfl)) hf
          obtain ⟨ad46, hl46⟩ := Ow.ce (d := fRef f6) o2.out 0 hc35.1 hc35.2
          have hn46 := o2.lt_gl hc35.1 hc35.2
          exact dv_ hK hw (wn rfl) (r_idx Try.underlying24 sz36 hf rfl hl46.at_ rfl hc35.1 hc35.2) (ex_ <| an_ rfl <| an_ hn46 <| hl46)
        · intro ρ w a hw hG hf hd K hK
          obtain ⟨o2, o9⟩ := hG
          obtain ⟨_, hf, ⟨ad46, rfl, hn46, hl46⟩⟩ := got (hd 2 (by kernel_rfl)) hf
          exact dv_ hK hw (wn rfl) (r_load_cell ty36 hf rfl hl46.co.cl) (an_ rfl <| hn46)
        · intro ρ w a hw hG hf hd K hK
          obtain ⟨o2, o9⟩ := hG
          exact dv_ hK hw (wn rfl) (r_move hf rfl) rfl
        · intro ρ w a hw hG hf hd K hK
          obtain ⟨o2, o9⟩ := hG
          exact dv_ hK hw (wn rfl) (r_move hf rfl) rfl
        · intro ρ w a hw hG hf hd K hK
          obtain ⟨o2, o9⟩ := hG
          exact dv_ hK hw (wn rfl) (r_load_cell ty3 hf rfl o9.cl) rfl
        · intro ρ w a hw hG hf hd K hK
          obtain ⟨o2, o9⟩ := hG
          obtain ⟨_, hf, rfl⟩ := got (hd 5 (by kernel_rfl)) hf
          obtain ⟨_, hf, rfl⟩ := got (hd 6 (by kernel_rfl)) hf
          obtain ⟨ad47, hl47⟩ := Ow.ce (d := fRef f6) o2.out 0 hc35.1 hc35.2
          have hn47 := o2.lt_gl hc35.1 hc35.2
          exact dv_ hK hw (wn rfl) (r_idx Try.underlying24 sz36 hf rfl hl47.at_ rfl hc35.1 hc35.2) (ex_ <| an_ rfl <| an_ hn47 <| hl47)
        · intro ρ w a hw hG hf hd K hK
          obtain ⟨o2, o9⟩ := hG
          obtain ⟨_, hf, ⟨ad47, rfl, hn47, hl47⟩⟩ := got (hd 7 (by kernel_rfl)) hf
          exact dv_ hK hw (wn rfl) (r_load_cell ty36 hf rfl hl47.co.cl) (an_ rfl <| hn47)
        · intro ρ w a hw hG hf hd K hK
          obtain ⟨o2, o9⟩ := hG
          exact dv_ hK hw (wn rfl) (r_move hf rfl) rfl
        · intro ρ w a hw hG hf hd K hK
          obtain ⟨o2, o9⟩ := hG
          obtain ⟨_, hf, ⟨rfl, hn47⟩⟩ := got (hd 8 (by kernel_rfl)) hf
          obtain ⟨_, hf, rfl⟩ := got (hd 9 (by kernel_rfl)) hf
          obtain ⟨ad49, hl49⟩ := Ow.ce (d := fI64) (o2.rowAt hn47) 0 hc48.1 hc48.2
          exact dv_ hK hw (wn rfl) (r_idx Try.underlying36 sz2 hf rfl hl49.at_ rfl hc48.1 hc48.2) (ex_ <| an_ rfl <| hl49)
        · intro ρ w a hw hG hf hd K hK
          obtain ⟨o2, o9⟩ := hG
          obtain ⟨_, hf, ⟨ad49, rfl, hl49⟩⟩ := got (hd 10 (by kernel_rfl)) hf
          exact dv_ hK hw (wn rfl) (r_load_cell ty2 hf rfl hl49.co.cl) rfl
        · intro ρ w a hw hG hf hd K hK
          obtain ⟨o2, o9⟩ := hG
          exact dv_ hK hw (wn rfl) (r_move hf rfl) rfl
        · intro ρ w a hw hG hf hd K hK
          obtain ⟨o2, o9⟩ := hG
          obtain ⟨_, hf, rfl⟩ := got (hd 11 (by kernel_rfl)) hf
          obtain ⟨_, hf, rfl⟩ := got (hd 12 (by kernel_rfl)) hf
          exact dv_ hK hw (wn rfl) (r_mul hf rfl rfl) rfl
        · intro ρ w a hw hG hf hd K hK
          obtain ⟨o2, o9⟩ := hG
          exact dv_ hK hw (wn rfl) (r_move hf rfl) rfl
        · intro ρ w a hw hG hf hd K hK
          obtain ⟨o2, o9⟩ := hG
          obtain ⟨_, hf, rfl⟩ := got (hd 13 (by kernel_rfl)) hf
          obtain ⟨_, hf, rfl⟩ := got (hd 14 (by kernel_rfl)) hf
          exact dv_ hK hw (wn rfl) (r_rem hf rfl rfl hc50) rfl
      intro ρ w a hw hG hf hd
      obtain ⟨o2, o9⟩ := hG
      obtain ⟨_, hf, ⟨rfl, hn46⟩⟩ := got (hd 3 (by decide)) hf
      obtain ⟨_, hf, rfl⟩ := got (hd 4 (by decide)) hf
      obtain ⟨_, hf, rfl⟩ := got (hd 15 (by decide)) hf
      obtain ⟨ad51, hl51⟩ := Ow.ce (d := fI64) (o2.rowAt hn46) 0 hc48.1 hc48.2
      refine s_ hf (r_idx Try.underlying36 sz2 hf rfl hl51.at_ rfl hc48.1 hc48.2) fun a hf => ?_
      refine sk_ hf (r_gcell (p := s43) (b := (w64 ((gl 0 (s44.getD (gl 0 ((s22.set s21.toNat (gl 0 s22 (w64 (s21 + x26)))).set (w64 (s21 + x26)).toNat (gl 0 s22 s21)) s21) []) s43) * x39)).tmod a0) 0 hw o2 hc48.1 hc48.2 (Lens.id _) hl51.at_ ty2 (by first | rfl | exact Nat.add_assoc _ _ _ | (simp only [Nat.add_assoc]; rfl)) hf rfl rfl rfl) fun a w hf hΦ => ?_
      obtain ⟨hw, hA, o2⟩ := hΦ
      replace o9 := o9.adv hA (by unfold lab; omega)
      replace hn46 : (gl 0 ((s22.set s21.toNat (gl 0 s22 (w64 (s21 + x26)))).set (w64 (s21 + x26)).toNat (gl 0 s22 s21)) s21) < (s44.set (gl 0 ((s22.set s21.toNat (gl 0 s22 (w64 (s21 + x26)))).set (w64 (s21 + x26)).toNat (gl 0 s22 s21)) s21) ((s44.getD (gl 0 ((s22.set s21.toNat (gl 0 s22 (w64 (s21 + x26)))).set (w64 (s21 + x26)).toNat (gl 0 s22 s21)) s21) []).set s43.toNat ((w64 ((gl 0 (s44.getD (gl 0 ((s22.set s21.toNat (gl 0 s22 (w64 (s21 + x26)))).set (w64 (s21 + x26)).toNat (gl 0 s22 s21)) s21) []) s43) * x39)).tmod a0))).length := by simp only [List.length_append, List.length_set]; omega
      refine c_nil <| n_block <| n_then <| c_region ?_
      refine s_ hf (r_add hf rfl rfl) fun a hf => ?_
      refine s_ hf (r_move hf rfl) fun a hf => ?_
      refine c_nil ?_
      obtain rfl := Option.some.inj hF
      exact Rnd.goes ⟨_, hw, hf.sub ⟨rfl, rfl, rfl, rfl, rfl, rfl, rfl, rfl, rfl, trivial⟩, o2, o9⟩
    rintro ⟨s43, s44⟩ a w hs ⟨ρ, hw, hf, o2, o9⟩
    subst hs
    have hF := hG42
    dsimp only at hF
    refine x_block <| n_then <| c_seq <| c_region ?_
    refine s_ hf (r_move hf rfl) fun a hf => ?_
    refine s_ hf (r_len Try.underlying24 o2.out.ro hf rfl) fun a hf => ?_
    refine s_ hf (r_move hf rfl) fun a hf => ?_
    refine c_nt ?_
    obtain ⟨ol52, ho52, hG52⟩ := of_bind hF
    clear hF
    refine c_block (c_loop (id := 6) (fun s => impl_inverted_l52 a0 s21 s22 x26 s.1 s.2) (fun (s : Int × (List (List Int))) a w => match s with | (s53, s54) => ∃ ρ, Wd w0 ρ w ∧ Fr 172 a [(0, vI a0), (5, vI (a1.length : Int)), (6, vv5), (10, .pointer (some ((⟨g9, 0, none⟩ : Addr).add 0))), (43, vI (a1.length : Int)), (44, vI s21), (104, vI (((s22.set s21.toNat (gl 0 s22 (w64 (s21 + x26)))).set (w64 (s21 + x26)).toNat (gl 0 s22 s21)).length : Int)), (105, vI s53)] ∧ Gd fI64 2 36 ρ w w0.heap.size 2 vv5 f6 ((s22.set s21.toNat (gl 0 s22 (w64 (s21 + x26)))).set (w64 (s21 + x26)).toNat (gl 0 s22 s21)) s54 ∧ Va ρ w 9 g9 3 ([vI s21])) (fun (s : Int × (List (List Int))) a w => match s with | (s53, s54) => ∃ ρ, Wd w0 ρ w ∧ Fr 172 a [(0, vI a0), (5, vI (a1.length : Int)), (6, vv5), (43, vI (a1.length : Int)), (44, vI s21)] ∧ Gd fI64 2 36 ρ w w0.heap.size 2 vv5 f6 ((s22.set s21.toNat (gl 0 s22 (w64 (s21 + x26)))).set (w64 (s21 + x26)).toNat (gl 0 s22 s21)) s54) ho52 ⟨_, hw, hf.sub ⟨rfl, rfl, rfl, rfl, rfl, rfl, rfl, rfl, trivial⟩, o2, o9⟩ ?_ ?_)
    · rintro ⟨s53, s54⟩ lr a w ⟨ρ, hw, hf, o2, o9⟩ hF
      replace hF : impl_inverted_l52 a0 s21 s22 x26 s53 s54 = some lr := hF
      unfold impl_inverted_l52 at hF
      refine c_seq <| c_region ?_
      refine s_ hf (r_lss hf rfl rfl) fun a hf => ?_
      refine c_nt <| c_seq ?_
      rcases of_ite hF with ⟨hb55, hF⟩ | ⟨hb55, hF⟩
      rotate_left
      · refine c_iff hf rfl hb55 <| c_exit <| x_then ?_
        obtain rfl := Option.some.inj hF
        exact Rnd.stops ⟨_, hw, hf.sub ⟨rfl, rfl, rfl, rfl, rfl, trivial⟩, o2⟩
      refine c_ift hf rfl hb55 <| c_skip <| n_then <| c_seq <| c_block <| c_seq <| c_region ?_
      refine s_ hf (r_move hf rfl) fun a hf => ?_
      refine s_ hf (r_assign hf rfl) fun a hf => ?_
      refine c_nt <| c_seq <| c_seq <| c_region ?_
      refine s_ hf (r_move hf rfl) fun a hf => ?_
      refine s_ hf (r_load_cell ty3 hf rfl o9.cl) fun a hf => ?_
      refine s_ hf (r_eql hf rfl rfl) fun a hf => ?_
      refine c_nt ?_
      rcases of_ite hF with ⟨hb56, hF⟩ | ⟨hb56, hF⟩
      · refine c_ift hf rfl hb56 <| c_exit <| x_then <| x_block <| n_then <| c_region ?_
        refine s_ hf (r_add hf rfl rfl) fun a hf => ?_
        refine s_ hf (r_move hf rfl) fun a hf => ?_
        refine c_nil ?_
        obtain rfl := Option.some.inj hF
        exact Rnd.goes ⟨_, hw, hf.sub ⟨rfl, rfl, rfl, rfl, rfl, rfl, rfl, rfl, trivial⟩, o2, o9⟩
      refine c_iff hf rfl hb56 <| c_skip <| n_then <| c_seq ?_
      obtain ⟨hc57, hF⟩ := of_guard hF
      replace hf : Fr 172 a [(0, vI a0), (5, vI (a1.length : Int)), (6, vv5), (10, .pointer (some ((⟨g9, 0, none⟩ : Addr).add 0))), (14, vI s53), (43, vI (a1.length : Int)), (44, vI s21), (104, vI (((s22.set s21.toNat (gl 0 s22 (w64 (s21 + x26)))).set (w64 (s21 + x26)).toNat (gl 0 s22 s21)).length : Int)), (105, vI s53)] := hf.sub ⟨rfl, rfl, rfl, rfl, rfl, rfl, rfl, rfl, rfl, trivial⟩
      refine c_drawL (h := 5) mixed (by kernel_rfl) (by kernel_rfl) (fun ρ w => Gd fI64 2 36 ρ w w0.heap.size 2 vv5 f6 ((s22.set s21.toNat (gl 0 s22 (w64 (s21 + x26)))).set (w64 (s21 + x26)).toNat (gl 0 s22 s21)) s54 ∧ Va ρ w 9 g9 3 ([vI s21])) ?_ [fun ρ w v => vv5 = v, fun ρ w v => vI s53 = v, fun ρ w v => ∃ ad58, .pointer (some (ad58.add (s53.toNat * 1))) = v ∧ (gl 0 ((s22.set s21.toNat (gl 0 s22 (w64 (s21 + x26)))).set (w64 (s21 + x26)).toNat (gl 0 s22 s21)) s53) < s54.length ∧ Ce ρ w 2 vv5 (((s22.set s21.toNat (gl 0 s22 (w64 (s21 + x26)))).set (w64 (s21 + x26)).toNat (gl 0 s22 s21)).length) ad58 (s53.toNat * 1) ([(f6 (gl 0 ((s22.set s21.toNat (gl 0 s22 (w64 (s21 + x26)))).set (w64 (s21 + x26)).toNat (gl 0 s22 s21)) s53)).1]), fun ρ w v => (f6 (gl 0 ((s22.set s21.toNat (gl 0 s22 (w64 (s21 + x26)))).set (w64 (s21 + x26)).toNat (gl 0 s22 s21)) s53)).1 = v ∧ (gl 0 ((s22.set s21.toNat (gl 0 s22 (w64 (s21 + x26)))).set (w64 (s21 + x26)).toNat (gl 0 s22 s21)) s53) < s54.length, fun ρ w v => vI s21 = v] ?_ hw ⟨o2, o9⟩ hf ?_ ?_
      · intro ρ w ρ' w' hE hG
        obtain ⟨o2, o9⟩ := hG
        exact ⟨o2.ext hE, o9.ext hE⟩
      · exact LastsL.cons (fun _ _ _ _ _ _ h => h) <| LastsL.cons (fun _ _ _ _ _ _ h => h) <| LastsL.cons (fun _ _ _ _ _ hE h => by obtain ⟨ad58, h, hn58, hl58⟩ := h; exact ⟨_, h, hn58, hl58.ext hE⟩) <| LastsL.cons (fun _ _ _ _ _ hE h => by obtain ⟨h, hn58⟩ := h; exact ⟨h, hn58⟩) <| LastsL.cons (fun _ _ _ _ _ _ h => h) <| LastsL.nil
      · refine StepsB.cons ?_ <| StepsB.cons ?_ <| StepsB.cons ?_ <| StepsB.cons ?_ <| StepsB.cons ?_ <| StepsB.nil
        · intro ρ w a hw hG hf hd K hK
          obtain ⟨o2, o9⟩ := hG
          exact dv_ hK hw (wn rfl) (r_move hf rfl) rfl
        · intro ρ w a hw hG hf hd K hK
          obtain ⟨o2, o9⟩ := hG
          exact dv_ hK hw (wn rfl) (r_move hf rfl) rfl
        · intro ρ w a hw hG hf hd K hK
          obtain ⟨o2, o9⟩ := hG
          obtain ⟨_, hf, rfl⟩ := got (hd 0 (by kernel_rfl)) hf
          obtain ⟨_, hf, rfl⟩ := got (hd 1 (by kernel_rfl)) hf
          obtain ⟨ad58, hl58⟩ := Ow.ce (d := fRef f6) o2.out 0 hc57.1 hc57.2
          have hn58 := o2.lt_gl hc57.1 hc57.2
          exact dv_ hK hw (wn rfl) (r_idx Try.underlying24 sz36 hf rfl hl58.at_ rfl hc57.1 hc57.2) (ex_ <| an_ rfl <| an_ hn58 <| hl58)
        · intro ρ w a hw hG hf hd K hK
          obtain ⟨o2, o9⟩ := hG
          obtain ⟨_, hf, ⟨ad58, rfl, hn58, hl58⟩⟩ := got (hd 2 (by kernel_rfl)) hf
          exact dv_ hK hw (wn rfl) (r_load_cell ty36 hf rfl hl58.co.cl) (an_ rfl <| hn58)
        · intro ρ w a hw hG hf hd K hK
          obtain ⟨o2, o9⟩ := hG
          exact dv_ hK hw (wn rfl) (r_load_cell ty3 hf rfl o9.cl) rfl
      intro ρ w a hw hG hf hd
      obtain ⟨o2, o9⟩ := hG
      obtain ⟨_, hf, ⟨rfl, hn58⟩⟩ := got (hd 3 (by decide)) hf
      obtain ⟨_, hf, rfl⟩ := got (hd 4 (by decide)) hf
      obtain ⟨hc59, hF⟩ := of_guard hF
      obtain ⟨ad60, hl60⟩ := Ow.ce (d := fI64) (o2.rowAt hn58) 0 hc59.1 hc59.2
      refine s_ hf (r_idx Try.underlying36 sz2 hf rfl hl60.at_ rfl hc59.1 hc59.2) fun a hf => ?_
      refine s_ hf (r_load_cell ty2 hf rfl hl60.co.cl) fun a hf => ?_
      refine s_ hf (r_assign hf rfl) fun a hf => ?_
      refine c_nt <| c_seq <| c_region ?_
      refine s_ hf (r_move hf rfl) fun a hf => ?_
      refine s_ hf (r_move hf rfl) fun a hf => ?_
      obtain ⟨ad61, hl61⟩ := Ow.ce (d := fRef f6) o2.out 0 hc57.1 hc57.2
      have hn61 := o2.lt_gl hc57.1 hc57.2
      refine s_ hf (r_idx Try.underlying24 sz36 hf rfl hl61.at_ rfl hc57.1 hc57.2) fun a hf => ?_
      refine s_ hf (r_load_cell ty36 hf rfl hl61.co.cl) fun a hf => ?_
      refine s_ hf (r_len Try.underlying36 ((o2.rowAt hn61).ro) hf rfl) fun a hf => ?_
      refine s_ hf (r_move hf rfl) fun a hf => ?_
      refine c_nt ?_
      obtain ⟨ol62, ho62, hG62⟩ := of_bind hF
      clear hF
      refine c_block (c_loop (id := 8) (fun s => impl_inverted_l62 a0 s21 s22 x26 s53 s54 s.1 s.2) (fun (s : Int × (List (List Int))) a w => match s with | (s63, s64) => ∃ ρ, Wd w0 ρ w ∧ Fr 172 a [(0, vI a0), (5, vI (a1.length : Int)), (6, vv5), (10, .pointer (some ((⟨g9, 0, none⟩ : Addr).add 0))), (14, vI s53), (15, vI (gl 0 (s54.getD (gl 0 ((s22.set s21.toNat (gl 0 s22 (w64 (s21 + x26)))).set (w64 (s21 + x26)).toNat (gl 0 s22 s21)) s53) []) s21)), (43, vI (a1.length : Int)), (44, vI s21), (104, vI (((s22.set s21.toNat (gl 0 s22 (w64 (s21 + x26)))).set (w64 (s21 + x26)).toNat (gl 0 s22 s21)).length : Int)), (105, vI s53), (122, vI ((s54.getD (gl 0 ((s22.set s21.toNat (gl 0 s22 (w64 (s21 + x26)))).set (w64 (s21 + x26)).toNat (gl 0 s22 s21)) s53) []).length : Int)), (123, vI s63)] ∧ Gd fI64 2 36 ρ w w0.heap.size 2 vv5 f6 ((s22.set s21.toNat (gl 0 s22 (w64 (s21 + x26)))).set (w64 (s21 + x26)).toNat (gl 0 s22 s21)) s64 ∧ Va ρ w 9 g9 3 ([vI s21])) (fun (s : Int × (List (List Int))) a w => match s with | (s63, s64) => ∃ ρ, Wd w0 ρ w ∧ Fr 172 a [(0, vI a0), (5, vI (a1.length : Int)), (6, vv5), (10, .pointer (some ((⟨g9, 0, none⟩ : Addr).add 0))), (43, vI (a1.length : Int)), (44, vI s21), (104, vI (((s22.set s21.toNat (gl 0 s22 (w64 (s21 + x26)))).set (w64 (s21 + x26)).toNat (gl 0 s22 s21)).length : Int)), (105, vI s53)] ∧ Gd fI64 2 36 ρ w w0.heap.size 2 vv5 f6 ((s22.set s21.toNat (gl 0 s22 (w64 (s21 + x26)))).set (w64 (s21 + x26)).toNat (gl 0 s22 s21)) s64 ∧ Va ρ w 9 g9 3 ([vI s21])) ho62 ⟨_, hw, hf.sub ⟨rfl, rfl, rfl, rfl, rfl, rfl, rfl, rfl, rfl, rfl, rfl, rfl, trivial⟩, o2, o9⟩ ?_ ?_)
      · rintro ⟨s63, s64⟩ lr a w ⟨ρ, hw, hf, o2, o9⟩ hF
        replace hF : impl_inverted_l62 a0 s21 s22 x26 s53 s54 s63 s64 = some lr := hF
        unfold impl_inverted_l62 at hF
        refine c_seq <| c_region ?_
        refine s_ hf (r_lss hf rfl rfl) fun a hf => ?_
        refine c_nt <| c_seq ?_
        rcases of_ite hF with ⟨hb65, hF⟩ | ⟨hb65, hF⟩
        rotate_left
        · refine c_iff hf rfl hb65 <| c_exit <| x_then ?_
          obtain rfl := Option.some.inj hF
          exact Rnd.stops ⟨_, hw, hf.sub ⟨rfl, rfl, rfl, rfl, rfl, rfl, rfl, rfl, trivial⟩, o2, o9⟩
        refine c_ift hf rfl hb65 <| c_skip <| n_then <| c_seq <| c_block <| c_seq <| c_region ?_
        refine s_ hf (r_move hf rfl) fun a hf => ?_
        refine s_ hf (r_assign hf rfl) fun a hf => ?_
        refine c_nt ?_
        obtain ⟨hc68, hF⟩ := of_guard hF
        obtain ⟨hc71, hF⟩ := of_guard hF
        obtain ⟨hc73, hF⟩ := of_guard hF
        replace hf : Fr 172 a [(0, vI a0), (5, vI (a1.length : Int)), (6, vv5), (10, .pointer (some ((⟨g9, 0, none⟩ : Addr).add 0))), (14, vI s53), (15, vI (gl 0 (s54.getD (gl 0 ((s22.set s21.toNat (gl 0 s22 (w64 (s21 + x26)))).set (w64 (s21 + x26)).toNat (gl 0 s22 s21)) s53) []) s21)), (16, vI s63), (43, vI (a1.length : Int)), (44, vI s21), (104, vI (((s22.set s21.toNat (gl 0 s22 (w64 (s21 + x26)))).set (w64 (s21 + x26)).toNat (gl 0 s22 s21)).length : Int)), (105, vI s53), (122, vI ((s54.getD (gl 0 ((s22.set s21.toNat (gl 0 s22 (w64 (s21 + x26)))).set (w64 (s21 + x26)).toNat (gl 0 s22 s21)) s53) []).length : Int)), (123, vI s63)] := hf.sub ⟨rfl, rfl, rfl, rfl, rfl, rfl, rfl, rfl, rfl, rfl, rfl, rfl, rfl, trivial⟩
        refine c_drawL (h := 26) mixed (by kernel_rfl) (by kernel_rfl) (fun ρ w => Gd fI64 2 36 ρ w w0.heap.size 2 vv5 f6 ((s22.set s21.toNat (gl 0 s22 (w64 (s21 + x26)))).set (w64 (s21 + x26)).toNat (gl 0 s22 s21)) s64 ∧ Va ρ w 9 g9 3 ([vI s21])) ?_ [fun ρ w v => vv5 = v, fun ρ w v => vI s53 = v, fun ρ w v => ∃ ad66, .pointer (some (ad66.add (s53.toNat * 1))) = v ∧ (gl 0 ((s22.set s21.toNat (gl 0 s22 (w64 (s21 + x26)))).set (w64 (s21 + x26)).toNat (gl 0 s22 s21)) s53) < s64.length ∧ Ce ρ w 2 vv5 (((s22.set s21.toNat (gl 0 s22 (w64 (s21 + x26)))).set (w64 (s21 + x26)).toNat (gl 0 s22 s21)).length) ad66 (s53.toNat * 1) ([(f6 (gl 0 ((s22.set s21.toNat (gl 0 s22 (w64 (s21 + x26)))).set (w64 (s21 + x26)).toNat (gl 0 s22 s21)) s53)).1]), fun ρ w v => (f6 (gl 0 ((s22.set s21.toNat (gl 0 s22 (w64 (s21 + x26)))).set (w64 (s21 + x26)).toNat (gl 0 s22 s21)) s53)).1 = v ∧ (gl 0 ((s22.set s21.toNat (gl 0 s22 (w64 (s21 + x26)))).set (w64 (s21 + x26)).toNat (gl 0 s22 s21)) s53) < s64.length, fun ρ w v => vI s63 = v, fun ρ w v => vv5 = v, fun ρ w v => vI s53 = v, fun ρ w v => ∃ ad67, .pointer (some (ad67.add (s53.toNat * 1))) = v ∧ (gl 0 ((s22.set s21.toNat (gl 0 s22 (w64 (s21 + x26)))).set (w64 (s21 + x26)).toNat (gl 0 s22 s21)) s53) < s64.length ∧ Ce ρ w 2 vv5 (((s22.set s21.toNat (gl 0 s22 (w64 (s21 + x26)))).set (w64 (s21 + x26)).toNat (gl 0 s22 s21)).length) ad67 (s53.toNat * 1) ([(f6 (gl 0 ((s22.set s21.toNat (gl 0 s22 (w64 (s21 + x26)))).set (w64 (s21 + x26)).toNat (gl 0 s22 s21)) s53)).1]), fun ρ w v => (f6 (gl 0 ((s22.set s21.toNat (gl 0 s22 (w64 (s21 + x26)))).set (w64 (s21 + x26)).toNat (gl 0 s22 s21)) s53)).1 = v ∧ (gl 0 ((s22.set s21.toNat (gl 0 s22 (w64 (s21 + x26)))).set (w64 (s21 + x26)).toNat (gl 0 s22 s21)) s53) < s64.length, fun ρ w v => vI s63 = v, fun ρ w v => ∃ ad69, .pointer (some (ad69.add (s63.toNat * 1))) = v ∧ Ce ρ w (lab 2 (gl 0 ((s22.set s21.toNat (gl 0 s22 (w64 (s21 + x26)))).set (w64 (s21 + x26)).toNat (gl 0 s22 s21)) s53)) ((f6 (gl 0 ((s22.set s21.toNat (gl 0 s22 (w64 (s21 + x26)))).set (w64 (s21 + x26)).toNat (gl 0 s22 s21)) s53)).1) ((s64.getD (gl 0 ((s22.set s21.toNat (gl 0 s22 (w64 (s21 + x26)))).set (w64 (s21 + x26)).toNat (gl 0 s22 s21)) s53) []).length) ad69 (s63.toNat * 1) (fI64.enc (gl 0 (s64.getD (gl 0 ((s22.set s21.toNat (gl 0 s22 (w64 (s21 + x26)))).set (w64 (s21 + x26)).toNat (gl 0 s22 s21)) s53) []) s63)), fun ρ w v => vI (gl 0 (s64.getD (gl 0 ((s22.set s21.toNat (gl 0 s22 (w64 (s21 + x26)))).set (w64 (s21 + x26)).toNat (gl 0 s22 s21)) s53) []) s63) = v, fun ρ w v => vI a0 = v, fun ρ w v => vI (gl 0 (s54.getD (gl 0 ((s22.set s21.toNat (gl 0 s22 (w64 (s21 + x26)))).set (w64 (s21 + x26)).toNat (gl 0 s22 s21)) s53) []) s21) = v, fun ρ w v => vI (w64 (a0 - (gl 0 (s54.getD (gl 0 ((s22.set s21.toNat (gl 0 s22 (w64 (s21 + x26)))).set (w64 (s21 + x26)).toNat (gl 0 s22 s21)) s53) []) s21))) = v, fun ρ w v => vv5 = v, fun ρ w v => vI s21 = v, fun ρ w v => ∃ ad70, .pointer (some (ad70.add (s21.toNat * 1))) = v ∧ (gl 0 ((s22.set s21.toNat (gl 0 s22 (w64 (s21 + x26)))).set (w64 (s21 + x26)).toNat (gl 0 s22 s21)) s21) < s64.length ∧ Ce ρ w 2 vv5 (((s22.set s21.toNat (gl 0 s22 (w64 (s21 + x26)))).set (w64 (s21 + x26)).toNat (gl 0 s22 s21)).length) ad70 (s21.toNat * 1) ([(f6 (gl 0 ((s22.set s21.toNat (gl 0 s22 (w64 (s21 + x26)))).set (w64 (s21 + x26)).toNat (gl 0 s22 s21)) s21)).1]), fun ρ w v => (f6 (gl 0 ((s22.set s21.toNat (gl 0 s22 (w64 (s21 + x26)))).set (w64 (s21 + x26)).toNat (gl 0 s22 s21)) s21)).1 = v ∧ (gl 0 ((s22.set s21.toNat (gl 0 s22 (w64 (s21 + x26)))).set (w64 (s21 + x26)).toNat (gl 0 s22 s21)) s21) < s64.length, fun ρ w v => vI s63 = v, fun ρ w v => ∃ ad72, .pointer (some (ad72.add (s63.toNat * 1))) = v ∧ Ce ρ w (lab 2 (gl 0 ((s22.set s21.toNat (gl 0 s22 (w64 (s21 + x26)))).set (w64 (s21 + x26)).toNat (gl 0 s22 s21)) s21)) ((f6 (gl 0 ((s22.set s21.toNat (gl 0 s22 (w64 (s21 + x26)))).set (w64 (s21 + x26)).toNat (gl 0 s22 s21)) s21)).1) ((s64.getD (gl 0 ((s22.set s21.toNat (gl 0 s22 (w64 (s21 + x26)))).set (w64 (s21 + x26)).toNat (gl 0 s22 s21)) s21) []).length) ad72 (s63.toNat * 1) (fI64.enc (gl 0 (s64.getD (gl 0 ((s22.set s21.toNat (gl 0 s22 (w64 (s21 + x26)))).set (w64 (s21 + x26)).toNat (gl 0 s22 s21)) s21) []) s63)), fun ρ w v => vI (gl 0 (s64.getD (gl 0 ((s22.set s21.toNat (gl 0 s22 (w64 (s21 + x26)))).set (w64 (s21 + x26)).toNat (gl 0 s22 s21)) s21) []) s63) = v, fun ρ w v => vI (w64 ((w64 (a0 - (gl 0 (s54.getD (gl 0 ((s22.set s21.toNat (gl 0 s22 (w64 (s21 + x26)))).set (w64 (s21 + x26)).toNat (gl 0 s22 s21)) s53) []) s21))) * (gl 0 (s64.getD (gl 0 ((s22.set s21.toNat (gl 0 s22 (w64 (s21 + x26)))).set (w64 (s21 + x26)).toNat (gl 0 s22 s21)) s21) []) s63))) = v, fun ρ w v => vI (w64 ((gl 0 (s64.getD (gl 0 ((s22.set s21.toNat (gl 0 s22 (w64 (s21 + x26)))).set (w64 (s21 + x26)).toNat (gl 0 s22 s21)) s53) []) s63) + (w64 ((w64 (a0 - (gl 0 (s54.getD (gl 0 ((s22.set s21.toNat (gl 0 s22 (w64 (s21 + x26)))).set (w64 (s21 + x26)).toNat (gl 0 s22 s21)) s53) []) s21))) * (gl 0 (s64.getD (gl 0 ((s22.set s21.toNat (gl 0 s22 (w64 (s21 + x26)))).set (w64 (s21 + x26)).toNat (gl 0 s22 s21)) s21) []) s63))))) = v, fun ρ w v => vI a0 = v, fun ρ w v => vI ((w64 ((gl 0 (s64.getD (gl 0 ((s22.set s21.toNat (gl 0 s22 (w64 (s21 + x26)))).set (w64 (s21 + x26)).toNat (gl 0 s22 s21)) s53) []) s63) + (w64 ((w64 (a0 - (gl 0 (s54.getD (gl 0 ((s22.set s21.toNat (gl 0 s22 (w64 (s21 + x26)))).set (w64 (s21 + x26)).toNat (gl 0 s22 s21)) s53) []) s21))) * (gl 0 (s64.getD (gl 0 ((s22.set s21.toNat (gl 0 s22 (w64 (s21 + x26)))).set (w64 (s21 + x26)).toNat (gl 0 s22 s21)) s21) []) s63))))).tmod a0) = v] ?_ hw ⟨o2, o9⟩ hf ?_ ?_
        · intro ρ w ρ' w' hE hG
          obtain ⟨o2, o9⟩ := hG
          exact ⟨o2.ext hE, o9.ext hE⟩
        · exact LastsL.cons (fun _ _ _ _ _ _ h => h) <| LastsL.cons (fun _ _ _ _ _ _ h => h) <| LastsL.cons (fun _ _ _ _ _ hE h => by obtain ⟨ad66, h, hn66, hl66⟩ := h; exact ⟨_, h, hn66, hl66.ext hE⟩) <| LastsL.cons (fun _ _ _ _ _ hE h => by obtain ⟨h, hn66⟩ := h; exact ⟨h, hn66⟩) <| LastsL.cons (fun _ _ _ _ _ _ h => h) <| LastsL.cons (fun _ _ _ _ _ _ h => h) <| LastsL.cons (fun _ _ _ _ _ _ h => h) <| LastsL.cons (fun _ _ _ _ _ hE h => by obtain ⟨ad67, h, hn67, hl67⟩ := h; exact ⟨_, h, hn67, hl67.ext hE⟩) <| LastsL.cons (fun _ _ _ _ _ hE h => by obtain ⟨h, hn67⟩ := h; exact ⟨h, hn67⟩) <| LastsL.cons (fun _ _ _ _ _ _ h => h) <| LastsL.cons (fun _ _ _ _ _ hE h => by obtain ⟨ad69, h, hl69⟩ := h; exact ⟨_, h, hl69.ext hE⟩) <| LastsL.cons (fun _ _ _ _ _ _ h => h) <| LastsL.cons (fun _ _ _ _ _ _ h => h) <| LastsL.cons (fun _ _ _ _ _ _ h => h) <| LastsL.cons (fun _ _ _ _ _ _ h => h) <| LastsL.cons (fun _ _ _ _ _ _ h => h) <| LastsL.cons (fun _ _ _ _ _ _ h => h) <| LastsL.cons (fun _ _ _ _ _ hE h => by obtain ⟨ad70, h, hn70, hl70⟩ := h; exact ⟨_, h, hn70, hl70.ext hE⟩) <| LastsL.cons (fun _ _ _ _ _ hE h => by obtain ⟨h, hn70⟩ := h; exact ⟨h, hn70⟩) <| LastsL.cons (fun _ _ _ _ _ _ h => h) <| LastsL.cons (fun _ _ _ _ _ hE h => by obtain ⟨ad72, h, hl72⟩ := h; exact ⟨_, h, hl72.ext hE⟩) <| LastsL.cons (fun _ _ _ _ _ _ h => h) <| LastsL.cons (fun _ _ _ _ _ _ h => h) <| LastsL.cons (fun _ _ _ _ _ _ h => h) <| LastsL.cons (fun _ _ _ _ _ _ h => h) <| LastsL.cons (fun _ _ _ _ _ _ h => h) <| LastsL.nil
        · refine StepsB.cons ?_ <| StepsB.cons ?_ <| StepsB.cons ?_ <| StepsB.cons ?_ <| StepsB.cons ?_ <| StepsB.cons ?_ <| StepsB.cons ?_ <| StepsB.cons ?_ <| StepsB.cons ?_ <| StepsB.cons ?_ <| StepsB.cons ?_ <| StepsB.cons ?_ <| StepsB.cons ?_ <| StepsB.cons ?_ <| StepsB.cons ?_ <| StepsB.cons ?_ <| StepsB.cons ?_ <| StepsB.cons ?_ <| StepsB.cons ?_ <| StepsB.cons ?_ <| StepsB.cons ?_ <| StepsB.cons ?_ <| StepsB.cons ?_ <| StepsB.cons ?_ <| StepsB.cons ?_ <| StepsB.cons ?_ <| StepsB.nil
          · intro ρ w a hw hG hf hd K hK
            obtain ⟨o2, o9⟩ := hG
            exact dv_ hK hw (wn rfl) (r_move hf rfl) rfl
          · intro ρ w a hw hG hf hd K hK
            obtain ⟨o2, o9⟩ := hG
            exact dv_ hK hw (wn rfl) (r_move hf rfl) rfl
          · intro ρ w a hw hG hf hd K hK
            obtain ⟨o2, o9⟩ := hG
            obtain ⟨_, hf, rfl⟩ := got (hd 0 (by kernel_rfl)) hf
            obtain ⟨_, hf, rfl⟩ := got (hd 1 (by kernel_rfl)) hf
            obtain ⟨ad66, hl66⟩ := Ow.ce (d := fRef f6) o2.out 0 hc57.1 hc57.2
            have hn66 := o2.lt_gl hc57.1 hc57.2
            exact dv_ hK hw (wn rfl) (r_idx Try.underlying24 sz36 hf rfl hl66.at_ rfl hc57.1 hc57.2) (ex_ <| an_ rfl <| an_ hn66 <| hl66)
          · intro ρ w a hw hG hf hd K hK
            obtain ⟨o2, o9⟩ := hG
            obtain ⟨_, hf, ⟨ad66, rfl, hn66, hl66⟩⟩ := got (hd 2 (by kernel_rfl)) hf
            exact dv_ hK hw (wn rfl) (r_load_cell ty36 hf rfl hl66.co.cl) (an_ rfl <| hn66)
          · intro ρ w a hw hG hf hd K hK
            obtain ⟨o2, o9⟩ := hG
            exact dv_ hK hw (wn rfl) (r_move hf rfl) rfl
          · intro ρ w a hw hG hf hd K hK
            obtain ⟨o2, o9⟩ := hG
            exact dv_ hK hw (wn rfl) (r_move hf rfl) rfl
          · intro ρ w a hw hG hf hd K hK
            obtain ⟨o2, o9⟩ := hG
            exact dv_ hK hw (wn rfl) (r_move hf rfl) rfl
          · intro ρ w a hw hG hf hd K hK
            obtain ⟨o2, o9⟩ := hG
            obtain ⟨_, hf, rfl⟩ := got (hd 5 (by kernel_rfl)) hf
            obtain ⟨_, hf, rfl⟩ := got (hd 6 (by kernel_rfl)) hf
            obtain ⟨ad67, hl67⟩ := Ow.ce (d := fRef f6) o2.out 0 hc57.1 hc57.2
            have hn67 := o2.lt_gl hc57.1 hc57.2
            exact dv_ hK hw (wn rfl) (r_idx Try.underlying24 sz36 hf rfl hl67.at_ rfl hc57.1 hc57.2) (ex_ <| an_ rfl <| an_ hn67 <| hl67)
          · intro ρ w a hw hG hf hd K hK
            obtain ⟨o2, o9⟩ := hG
            obtain ⟨_, hf, ⟨ad67, rfl, hn67, hl67⟩⟩ := got (hd 7 (by kernel_rfl)) hf
            exact dv_ hK hw (wn rfl) (r_load_cell ty36 hf rfl hl67.co.cl) (an_ rfl <| hn67)
          · intro ρ w a hw hG hf hd K hK
            obtain ⟨o2, o9⟩ := hG
            exact dv_ hK hw (wn rfl) (r_move hf rfl) rfl
          · intro ρ w a hw hG hf hd K hK
            obtain ⟨o2, o9⟩ := hG
            obtain ⟨_, hf, ⟨rfl, hn67⟩⟩ := got (hd 8 (by kernel_rfl)) hf
            obtain ⟨_, hf, rfl⟩ := got (hd 9 (by kernel_rfl)) hf
            obtain ⟨ad69, hl69⟩ := Ow.ce (d := fI64) (o2.rowAt hn67) 0 hc68.1 hc68.2
            exact dv_ hK hw (wn rfl) (r_idx Try.underlying36 sz2 hf rfl hl69.at_ rfl hc68.1 hc68.2) (ex_ <| an_ rfl <| hl69)
          · intro ρ w a hw hG hf hd K hK
            obtain ⟨o2, o9⟩ := hG
            obtain ⟨_, hf, ⟨ad69, rfl, hl69⟩⟩ := got (hd 10 (by kernel_rfl)) hf
            exact dv_ hK hw (wn rfl) (r_load_cell ty2 hf rfl hl69.co.cl) rfl
          · intro ρ w a hw hG hf hd K hK
            obtain ⟨o2, o9⟩ := hG
            exact dv_ hK hw (wn rfl) (r_move hf rfl) rfl
          · intro ρ w a hw hG hf hd K hK
            obtain ⟨o2, o9⟩ := hG
            exact dv_ hK hw (wn rfl) (r_move hf rfl) rfl
          · intro ρ w a hw hG hf hd K hK
            obtain ⟨o2, o9⟩ := hG
            obtain ⟨_, hf, rfl⟩ := got (hd 12 (by kernel_rfl)) hf
            obtain ⟨_, hf, rfl⟩ := got (hd 13 (by kernel_rfl)) hf
            exact dv_ hK hw (wn rfl) (r_sub hf rfl rfl) rfl
          · intro ρ w a hw hG hf hd K hK
            obtain ⟨o2, o9⟩ := hG
            exact dv_ hK hw (wn rfl) (r_move hf rfl) rfl
          · intro ρ w a hw hG hf hd K hK
            obtain ⟨o2, o9⟩ := hG
            exact dv_ hK hw (wn rfl) (r_load_cell ty3 hf rfl o9.cl) rfl
          · intro ρ w a hw hG hf hd K hK
            obtain ⟨o2, o9⟩ := hG
            obtain ⟨_, hf, rfl⟩ := got (hd 15 (by kernel_rfl)) hf
            obtain ⟨_, hf, rfl⟩ := got (hd 16 (by kernel_rfl)) hf
            obtain ⟨ad70, hl70⟩ := Ow.ce (d := fRef f6) o2.out 0 hc35.1 hc35.2
            have hn70 := o2.lt_gl hc35.1 hc35.2
            exact dv_ hK hw (wn rfl) (r_idx Try.underlying24 sz36 hf rfl hl70.at_ rfl hc35.1 hc35.2) (ex_ <| an_ rfl <| an_ hn70 <| hl70)
          · intro ρ w a hw hG hf hd K hK
            obtain ⟨o2, o9⟩ := hG
            obtain ⟨_, hf, ⟨ad70, rfl, hn70, hl70⟩⟩ := got (hd 17 (by kernel_rfl)) hf
            exact dv_ hK hw (wn rfl) (r_load_cell ty36 hf rfl hl70.co.cl) (an_ rfl <| hn70)
          · intro ρ w a hw hG hf hd K hK
            obtain ⟨o2, o9⟩ := hG
            exact dv_ hK hw (wn rfl) (r_move hf rfl) rfl
          · intro ρ w a hw hG hf hd K hK
            obtain ⟨o2, o9⟩ := hG
            obtain ⟨_, hf, ⟨rfl, hn70⟩⟩ := got (hd 18 (by kernel_rfl)) hf
            obtain ⟨_, hf, rfl⟩ := got (hd 19 (by kernel_rfl)) hf
            obtain ⟨ad72, hl72⟩ := Ow.ce (d := fI64) (o2.rowAt hn70) 0 hc71.1 hc71.2
            exact dv_ hK hw (wn rfl) (r_idx Try.underlying36 sz2 hf rfl hl72.at_ rfl hc71.1 hc71.2) (ex_ <| an_ rfl <| hl72)
          · intro ρ w a hw hG hf hd K hK
            obtain ⟨o2, o9⟩ := hG
            obtain ⟨_, hf, ⟨ad72, rfl, hl72⟩⟩ := got (hd 20 (by kernel_rfl)) hf
            exact dv_ hK hw (wn rfl) (r_load_cell ty2 hf rfl hl72.co.cl) rfl
          · intro ρ w a hw hG hf hd K hK
            obtain ⟨o2, o9⟩ := hG
            obtain ⟨_, hf, rfl⟩ := got (hd 14 (by kernel_rfl)) hf
            obtain ⟨_, hf, rfl⟩ := got (hd 21 (by kernel_rfl)) hf
            exact dv_ hK hw (wn rfl) (r_mul hf rfl rfl) rfl
          · intro ρ w a hw hG hf hd K hK
            obtain ⟨o2, o9⟩ := hG
            obtain ⟨_, hf, rfl⟩ := got (hd 11 (by kernel_rfl)) hf
            obtain ⟨_, hf, rfl⟩ := got (hd 22 (by kernel_rfl)) hf
            exact dv_ hK hw (wn rfl) (r_add hf rfl rfl) rfl
          · intro ρ w a hw hG hf hd K hK
            obtain ⟨o2, o9⟩ := hG
            exact dv_ hK hw (wn rfl) (r_move hf rfl) rfl
          · intro ρ w a hw hG hf hd K hK
            obtain ⟨o2, o9⟩ := hG
            obtain ⟨_, hf, rfl⟩ := got (hd 23 (by kernel_rfl)) hf
            obtain ⟨_, hf, rfl⟩ := got (hd 24 (by kernel_rfl)) hf
            exact dv_ hK hw (wn rfl) (r_rem hf rfl rfl hc73) rfl
        intro ρ w a hw hG hf hd
        obtain ⟨o2, o9⟩ := hG
        obtain ⟨_, hf, ⟨rfl, hn66⟩⟩ := got (hd 3 (by decide)) hf
        obtain ⟨_, hf, rfl⟩ := got (hd 4 (by decide)) hf
        obtain ⟨_, hf, rfl⟩ := got (hd 25 (by decide)) hf
        obtain ⟨ad74, hl74⟩ := Ow.ce (d := fI64) (o2.rowAt hn66) 0 hc68.1 hc68.2
        refine s_ hf (r_idx Try.underlying36 sz2 hf rfl hl74.at_ rfl hc68.1 hc68.2) fun a hf => ?_
        refine sk_ hf (r_gcell (p := s63) (b := (w64 ((gl 0 (s64.getD (gl 0 ((s22.set s21.toNat (gl 0 s22 (w64 (s21 + x26)))).set (w64 (s21 + x26)).toNat (gl 0 s22 s21)) s53) []) s63) + (w64 ((w64 (a0 - (gl 0 (s54.getD (gl 0 ((s22.set s21.toNat (gl 0 s22 (w64 (s21 + x26)))).set (w64 (s21 + x26)).toNat (gl 0 s22 s21)) s53) []) s21))) * (gl 0 (s64.getD (gl 0 ((s22.set s21.toNat (gl 0 s22 (w64 (s21 + x26)))).set (w64 (s21 + x26)).toNat (gl 0 s22 s21)) s21) []) s63))))).tmod a0) 0 hw o2 hc68.1 hc68.2 (Lens.id _) hl74.at_ ty2 (by first | rfl | exact Nat.add_assoc _ _ _ | (simp only [Nat.add_assoc]; rfl)) hf rfl rfl rfl) fun a w hf hΦ => ?_
        obtain ⟨hw, hA, o2⟩ := hΦ
        replace o9 := o9.adv hA (by unfold lab; omega)
        replace hn66 : (gl 0 ((s22.set s21.toNat (gl 0 s22 (w64 (s21 + x26)))).set (w64 (s21 + x26)).toNat (gl 0 s22 s21)) s53) < (s64.set (gl 0 ((s22.set s21.toNat (gl 0 s22 (w64 (s21 + x26)))).set (w64 (s21 + x26)).toNat (gl 0 s22 s21)) s53) ((s64.getD (gl 0 ((s22.set s21.toNat (gl 0 s22 (w64 (s21 + x26)))).set (w64 (s21 + x26)).toNat (gl 0 s22 s21)) s53) []).set s63.toNat ((w64 ((gl 0 (s64.getD (gl 0 ((s22.set s21.toNat (gl 0 s22 (w64 (s21 + x26)))).set (w64 (s21 + x26)).toNat (gl 0 s22 s21)) s53) []) s63) + (w64 ((w64 (a0 - (gl 0 (s54.getD (gl 0 ((s22.set s21.toNat (gl 0 s22 (w64 (s21 + x26)))).set (w64 (s21 + x26)).toNat (gl 0 s22 s21)) s53) []) s21))) * (gl 0 (s64.getD (gl 0 ((s22.set s21.toNat (gl 0 s22 (w64 (s21 + x26)))).set (w64 (s21 + x26)).toNat (gl 0 s22 s21)) s21) []) s63))))).tmod a0))).length := by simp only [List.length_append, List.length_set]; omega
        refine c_nil <| n_block <| n_then <| c_region ?_
        refine s_ hf (r_add hf rfl rfl) fun a hf => ?_
        refine s_ hf (r_move hf rfl) fun a hf => ?_
        refine c_nil ?_
        obtain rfl := Option.some.inj hF
        exact Rnd.goes ⟨_, hw, hf.sub ⟨rfl, rfl, rfl, rfl, rfl, rfl, rfl, rfl, rfl, rfl, rfl, rfl, trivial⟩, o2, o9⟩
      rintro ⟨s63, s64⟩ a w hs ⟨ρ, hw, hf, o2, o9⟩
      subst hs
      have hF := hG62
      dsimp only at hF
      refine x_block <| n_block <| n_then <| c_region ?_
      refine s_ hf (r_add hf rfl rfl) fun a hf => ?_
      refine s_ hf (r_move hf rfl) fun a hf => ?_
      refine c_nil ?_
      obtain rfl := Option.some.inj hF
      exact Rnd.goes ⟨_, hw, hf.sub ⟨rfl, rfl, rfl, rfl, rfl, rfl, rfl, rfl, trivial⟩, o2, o9⟩
    rintro ⟨s53, s54⟩ a w hs ⟨ρ, hw, hf, o2⟩
    subst hs
    have hF := hG52
    dsimp only at hF
    refine x_block <| n_block <| n_then <| c_region ?_
    refine s_ hf (r_add hf rfl rfl) fun a hf => ?_
    refine s_ hf (r_move hf rfl) fun a hf => ?_
    refine c_nil ?_
    obtain rfl := Option.some.inj hF
    exact Rnd.goes ⟨_, hw, hf.sub ⟨rfl, rfl, rfl, rfl, rfl, trivial⟩, o2⟩
  rintro ⟨s21, s22, s23⟩ a w hs ⟨ρ, hw, hf, o2⟩
  subst hs
  have hF := hG20
  dsimp only at hF
  refine x_block <| n_then <| c_seq <| c_region ?_
  refine sx_ hf (r_lit_none (d := (Kd.slice 2 (kf fI64))) 46 Try.underlying24 el36 hw) fun a v46 w hf hΦ => ?_
  obtain ⟨ρ, hw, hE, o46⟩ := hΦ
  replace o2 := o2.ext hE
  replace o46 : Gd fI64 2 36 ρ w w0.heap.size 46 v46 (fun _ => (⟨.bool false, rfl⟩ : V1)) ([] : List Nat) ([] : List (List Int)) := Gd.empty o46 rfl (by decide) _
  refine s_ hf (r_assign hf rfl) fun a hf => ?_
  refine c_nt <| c_seq <| c_seq <| c_region ?_
  refine s_ hf (r_move hf rfl) fun a hf => ?_
  refine s_ hf (r_len Try.underlying24 o2.out.ro hf rfl) fun a hf => ?_
  refine s_ hf (r_move hf rfl) fun a hf => ?_
  refine c_nt ?_
  obtain ⟨ol75, ho75, hG75⟩ := of_bind hF
  clear hF
  refine c_block (c_loop (id := 10) (fun s => impl_inverted_l75 a1 s22 s23 s.1 s.2.1 s.2.2) (fun (s : Int × (List Nat) × (List (List Int))) a w => match s with | (s76, s77, s78) => ∃ ρ vv79 f80, Wd w0 ρ w ∧ Fr 172 a [(5, vI (a1.length : Int)), (17, vv79), (157, vv5), (158, vI (s22.length : Int)), (159, vI s76)] ∧ Gd fI64 2 36 ρ w w0.heap.size 2 vv5 f6 s22 s23 ∧ Gd fI64 2 36 ρ w w0.heap.size 46 vv79 f80 s77 s78) (fun (s : Int × (List Nat) × (List (List Int))) a w => match s with | (s76, s77, s78) => ∃ ρ vv79 f80, Wd w0 ρ w ∧ Fr 172 a [(17, vv79)] ∧ Gd fI64 2 36 ρ w w0.heap.size 46 vv79 f80 s77 s78) ho75 ⟨_, _, _, hw, hf.sub ⟨rfl, rfl, rfl, rfl, rfl, trivial⟩, o2, o46⟩ ?_ ?_)
  · rintro ⟨s76, s77, s78⟩ lr a w ⟨ρ, vv79, f80, hw, hf, o2, o46⟩ hF
    replace hF : impl_inverted_l75 a1 s22 s23 s76 s77 s78 = some lr := hF
    unfold impl_inverted_l75 at hF
    refine c_seq <| c_region ?_
    refine s_ hf (r_lss hf rfl rfl) fun a hf => ?_
    refine c_nt <| c_seq ?_
    rcases of_ite hF with ⟨hb81, hF⟩ | ⟨hb81, hF⟩
    rotate_left
    · refine c_iff hf rfl hb81 <| c_exit <| x_then ?_
      obtain rfl := Option.some.inj hF
      exact Rnd.stops ⟨_, _, _, hw, hf.sub ⟨rfl, trivial⟩, o46⟩
    refine c_ift hf rfl hb81 <| c_skip <| n_then <| c_seq <| c_block <| c_seq <| c_region ?_
    obtain ⟨hc82, hF⟩ := of_guard hF
    obtain ⟨ad83, hl83⟩ := Ow.ce (d := fRef f6) o2.out 0 hc82.1 hc82.2
    have hn83 := o2.lt_gl hc82.1 hc82.2
    refine s_ hf (r_idx Try.underlying24 sz36 hf rfl hl83.at_ rfl hc82.1 hc82.2) fun a hf => ?_
    refine s_ hf (r_load_cell ty36 hf rfl hl83.co.cl) fun a hf => ?_
    refine s_ hf (r_assign hf rfl) fun a hf => ?_
    refine c_nt <| c_region ?_
    refine s_ hf (r_move hf rfl) fun a hf => ?_
    refine s_ hf (r_move hf rfl) fun a hf => ?_
    refine s_ hf (r_move hf rfl) fun a hf => ?_
    obtain ⟨hc84, hF⟩ := of_guard hF
    have o49 : Ro (kf fI64) w (cutV ((f6 (gl 0 s22 s76)).1) (a1.length : Int).toNat ((s23.getD (gl 0 s22 s76) []).length : Int).toNat 1) (((s23.getD (gl 0 s22 s76) []).take ((s23.getD (gl 0 s22 s76) []).length : Int).toNat).drop (a1.length : Int).toNat) := ro_cutV ((o2.rowAt hn83).ro) hc84.1 hc84.2 (Int.le_refl _)
    refine s_ hf (r_cut_v (lo := (a1.length : Int)) (hi := ((s23.getD (gl 0 s22 s76) []).length : Int)) Try.underlying36 sz2 rfl ((o2.rowAt hn83).ro) hf rfl (.inr ⟨_, rfl, rfl⟩) (.inl ⟨rfl, rfl⟩) hc84.1 hc84.2 (Int.le_refl _)) fun a hf => ?_
    obtain ⟨x85, hx86, hF⟩ := of_bind hF
    refine st_fn 50 hw hf rfl rfl (by decide) (r_fn en111 hf rfl) (slices_Clone_111_ok o49 hx86) fun a v w ρ hf hw hE hN hΦ => ?_
    obtain ⟨u87, rfl, hr88⟩ := hΦ
    replace o2 := o2.ext hE
    replace o46 := o46.ext hE
    replace hl83 := hl83.ext hE
    replace o49 := o49.ext hE
    have o50 := hN hr88
    refine sx_ hf (r_glit 51 Try.underlying24 el36 hw hf rfl o50) fun a v51 w hf hΦ => ?_
    obtain ⟨ρ, hw, hE, o51⟩ := hΦ
    replace o2 := o2.ext hE
    replace o46 := o46.ext hE
    replace hl83 := hl83.ext hE
    replace o49 := o49.ext hE
    replace o50 := o50.ext hE
    obtain ⟨hc89, hF⟩ := of_guard hF
    refine sx_ hf (r_gapp' Try.underlying24 el36 hw (by decide) (by decide) (fun _ => by unfold lab; omega) o46 o51 o50 hc89 hf rfl rfl) fun a va90 w hf hΦ => ?_
    obtain ⟨f90, ρ, hw, hT, o46, hff90, hnu90⟩ := hΦ
    replace o2 := o2.tr (hT 2 (by decide) (by decide)) (fun _ => hT _ (by unfold lab; omega) (by unfold lab; omega))
    rw [hnu90] at hf
    have hn91 : s78.length < (s78 ++ [x85]).length := by simp
    refine s_ hf (r_assign hf rfl) fun a hf => ?_
    refine c_nil <| n_block <| n_then <| c_region ?_
    refine s_ hf (r_add hf rfl rfl) fun a hf => ?_
    refine s_ hf (r_move hf rfl) fun a hf => ?_
    refine c_nil ?_
    obtain rfl := Option.some.inj hF
    exact Rnd.goes ⟨_, _, _, hw, hf.sub ⟨rfl, rfl, rfl, rfl, rfl, trivial⟩, o2, o46⟩
  rintro ⟨s76, s77, s78⟩ a w hs ⟨ρ, vv79, f80, hw, hf, o46⟩
  subst hs
  have hF := hG75
  dsimp only at hF
  refine x_block <| n_then <| c_seq <| c_region ?_
  refine s_ hf (r_move hf rfl) fun a hf => ?_
  refine s_ hf (r_assign hf rfl) fun a hf => ?_
  refine c_nt <| c_retc ?_
  obtain rfl := Option.some.inj hF
  refine c_ret hf (res_tmp Try.results55 hf rfl) ?_
  exact ⟨_, rfl, hw.below, ⟨_, rfl, o46.fresh⟩⟩
/-! f105 -/
noncomputable def spec_l01Own (a0 : List Int) : Option (List Int) :=
  if (([] : List Int).length + a0.length) * 8 ≤ 140737488355328 then (some ((([] : List Int) ++ a0))) else none
theorem spec_l01Own_ok {w0 : World} {a0 : List Int} {va0 : Value} (h0 : Ro (kf fI64) w0 va0 a0) {r : List Int} (hF : spec_l01Own a0 = some r) :
    Calls Try.prog 105 [va0].toArray w0 fun e w => ∃ v, e = .returned v ∧ Below w0.heap.size w0 w ∧ ∃ u0, u0 = v ∧ Fresh (kf fI64) 2 w0 w u0 r := by
  refine calls_of (k := 6) Try.func105 rfl rfl (Nat.le_of_ble_eq_true rfl) fun a hf => ?_
  replace hf : Fr 6 a [(0, va0)] := hf
  refine c_start fun w ρ hw => ?_
  unfold spec_l01Own at hF
  refine c_seq <| c_region ?_
  have o1 : Ow (kf fI64) 2 ρ w w0.heap.size 1 (.slice none 0 0) [] := Ow.nil _ _ _ _ _ _
  refine s_ hf (r_assign hf rfl) fun a hf => ?_
  refine c_nt <| c_seq <| c_region ?_
  refine sx_ hf (r_lit (d := fI64) (xs := ([] : List Int)) (vs := []) 2 Try.underlying36 el2 (Nat.le_of_ble_eq_true rfl) (Nat.le_of_ble_eq_true rfl) hw hf rfl rfl rfl) fun a v2 w hf hΦ => ?_
  obtain ⟨ρ, hw, hE, o2⟩ := hΦ
  replace o1 := o1.ext hE
  refine s_ hf (r_move hf rfl) fun a hf => ?_
  obtain ⟨hc1, hF⟩ := of_guard hF
  refine sx_ hf (r_append Try.underlying36 el2 hw (by decide) o2 (h0.now hw) hc1 hf rfl rfl) fun a va2 w hf hΦ => ?_
  obtain ⟨ρ, hw, hA, o2⟩ := hΦ
  replace o1 := o1.adv hA (by decide)
  refine s_ hf (r_assign hf rfl) fun a hf => ?_
  refine c_nt <| c_retc ?_
  obtain rfl := Option.some.inj hF
  refine c_ret hf (res_tmp Try.results105 hf rfl) ?_
  exact ⟨_, rfl, hw.below, ⟨_, rfl, o2.out⟩⟩
/-! f57 -/
noncomputable def spec_l04Inverse_l14 (a1 : List (List Int)) (s2 : Int) (s15 : Int) (s16 : List Int) : Option (LR (Int × (List Int)) (List (List Int) × Bool)) :=
  if (decide (s15 < (a1.length : Int))) = true then (if (decide (s2 = s15)) = true then (if (s16.length + ([1]).length) * 8 ≤ 140737488355328 then (some (.next (w64 (s15 + 1), (s16 ++ [1])))) else none) else (if (s16.length + ([0]).length) * 8 ≤ 140737488355328 then (some (.next (w64 (s15 + 1), (s16 ++ [0])))) else none)) else (some (.stop (s15, s16)))
noncomputable def spec_l04Inverse_l1 (a1 : List (List Int)) (s2 : Int) (s3 : List Nat) (s4 : List (List Int)) : Option (LR (Int × (List Nat) × (List (List Int))) (List (List Int) × Bool)) :=
  if (decide (s2 < (a1.length : Int))) = true then (if 0 ≤ s2 ∧ s2 < (a1.length : Int) then ((spec_l01Own (gl [] a1 s2)).bind fun x10 => (iter (fun s => spec_l04Inverse_l14 a1 s2 s.1 s.2) (0, x10)).bind fun o => match o with | .stop (s15, s16) => (if (s3.length + 1) * 24 ≤ 140737488355328 then (some (.next (w64 (s2 + 1), (s3 ++ [s4.length]), (s4 ++ [s16])))) else none) | .ret r => some (.ret r) | .next _ => none) else none) else (some (.stop (s2, s3, s4)))
noncomputable def spec_l04Inverse_l33 (a1 : List (List Int)) (s28 : Int) (s29 : List Nat) (s30 : List (List Int)) (s34 : Int) : Option (LR Int (List (List Int) × Bool)) :=
  (if (decide (s34 < (a1.length : Int))) = true then (if 0 ≤ s34 ∧ s34 < (s29.length : Int) then (if 0 ≤ s28 ∧ s28 < ((s30.getD (gl 0 s29 s34) []).length : Int) then (some (decide ((gl 0 (s30.getD (gl 0 s29 s34) []) s28) = 0))) else none) else none) else (some false)).bind fun (s36 : Bool) => if s36 = true then (some (.next (w64 (s34 + 1)))) else (some (.stop s34))
noncomputable def spec_l04Inverse_l53 (a0 : Int) (a1 : List (List Int)) (s29 : List Nat) (s30 : List (List Int)) (s34 : Int) (x51 : Int) (s54 : Int) (s55 : List Int) : Option (LR (Int × (List Int)) (List (List Int) × Bool)) :=
  if (decide (s54 < (w64 (2 * (a1.length : Int))))) = true then (if 0 ≤ s54 ∧ s54 < ((s30.getD (gl 0 s29 s34) []).length : Int) then (if a0 ≠ 0 then (if (s55.length + ([(w64 ((gl 0 (s30.getD (gl 0 s29 s34) []) s54) * x51)).tmod a0]).length) * 8 ≤ 140737488355328 then (some (.next (w64 (s54 + 1), (s55 ++ [(w64 ((gl 0 (s30.getD (gl 0 s29 s34) []) s54) * x51)).tmod a0])))) else none) else none) else none) else (some (.stop (s54, s55)))
noncomputable def spec_l04Inverse_l81 (a0 : Int) (a1 : List (List Int)) (s28 : Int) (s30 : List (List Int)) (s68 : Int) (s69 : List Nat) (s70 : List (List Int)) (s82 : Int) (s83 : List Int) : Option (LR (Int × (List Int)) (List (List Int) × Bool)) :=
  if (decide (s82 < (w64 (2 * (a1.length : Int))))) = true then (if 0 ≤ s82 ∧ s82 < ((s70.getD (gl 0 s69 s68) []).length : Int) then (if 0 ≤ s82 ∧ s82 < ((s70.getD s30.length []).length : Int) then ((spec_l01Mod a0 (w64 ((gl 0 (s70.getD (gl 0 s69 s68) []) s82) - (w64 ((gl 0 (s70.getD (gl 0 s69 s68) []) s28) * (gl 0 (s70.getD s30.length []) s82)))))).bind fun x91 => if (s83.length + ([x91]).length) * 8 ≤ 140737488355328 then (some (.next (w64 (s82 + 1), (s83 ++ [x91])))) else none) else none) else none) else (some (.stop (s82, s83)))
noncomputable def spec_l04Inverse_l67 (a0 : Int) (a1 : List (List Int)) (s28 : Int) (s30 : List (List Int)) (s68 : Int) (s69 : List Nat) (s70 : List (List Int)) : Option (LR (Int × (List Nat) × (List (List Int))) (List (List Int) × Bool)) :=
  if (decide (s68 < (a1.length : Int))) = true then (if 0 ≤ s68 ∧ s68 < (s69.length : Int) then (if 0 ≤ s28 ∧ s28 < ((s70.getD (gl 0 s69 s68) []).length : Int) then ((if (decide (s68 = s28)) = true then (some true) else (some (decide ((gl 0 (s70.getD (gl 0 s69 s68) []) s28) = 0)))).bind fun (s78 : Bool) => if s78 = true then (some (.next (w64 (s68 + 1), s69, s70))) else ((iter (fun s => spec_l04Inverse_l81 a0 a1 s28 s30 s68 s69 s70 s.1 s.2) (0, ([] : List Int))).bind fun o => match o with | .stop (s82, s83) => (some (.next (w64 (s68 + 1), (s69.set s68.toNat s70.length), (s70 ++ [s83])))) | .ret r => some (.ret r) | .next _ => none)) else none) else none) else (some (.stop (s68, s69, s70)))
noncomputable def spec_l04Inverse_l27 (a0 : Int) (a1 : List (List Int)) (s28 : Int) (s29 : List Nat) (s30 : List (List Int)) : Option (LR (Int × (List Nat) × (List (List Int))) (List (List Int) × Bool)) :=
  if (decide (s28 < (a1.length : Int))) = true then ((iter (fun s => spec_l04Inverse_l33 a1 s28 s29 s30 s) s28).bind fun o => match o with | .stop s34 => (if (decide (s34 = (a1.length : Int))) = true then (some (.ret (([] : List (List Int)), false))) else (if 0 ≤ s34 ∧ s34 < (s29.length : Int) then (if 0 ≤ s28 ∧ s28 < (s29.length : Int) then (if 0 ≤ s28 ∧ s28 < ((s30.getD (gl 0 s29 s34) []).length : Int) then ((spec_l01Inverse a0 (gl 0 (s30.getD (gl 0 s29 s34) []) s28)).bind fun x51 => (iter (fun s => spec_l04Inverse_l53 a0 a1 s29 s30 s34 x51 s.1 s.2) (0, ([] : List Int))).bind fun o => match o with | .stop (s54, s55) => (if 0 ≤ s28 ∧ s28 < ((s29.set s34.toNat (gl 0 s29 s28)).length : Int) then ((iter (fun s => spec_l04Inverse_l67 a0 a1 s28 s30 s.1 s.2.1 s.2.2) (0, ((s29.set s34.toNat (gl 0 s29 s28)).set s28.toNat s30.length), (s30 ++ [s55]))).bind fun o => match o with | .stop (s68, s69, s70) => (some (.next (w64 (s28 + 1), s69, s70))) | .ret r => some (.ret r) | .next _ => none) else none) | .ret r => some (.ret r) | .next _ => none) else none) else none) else none)) | .ret r => some (.ret r) | .next _ => none) else (some (.stop (s28, s29, s30)))
noncomputable def spec_l04Inverse_l98 (a1 : List (List Int)) (s29 : List Nat) (s30 : List (List Int)) (s99 : Int) (s100 : List Nat) (s101 : List (List Int)) : Option (LR (Int × (List Nat) × (List (List Int))) (List (List Int) × Bool)) :=
  if (decide (s99 < (a1.length : Int))) = true then (if 0 ≤ s99 ∧ s99 < (s29.length : Int) then (if 0 ≤ (a1.length : Int) ∧ (a1.length : Int) ≤ ((s30.getD (gl 0 s29 s99) []).length : Int) then ((spec_l01Own (((s30.getD (gl 0 s29 s99) []).take ((s30.getD (gl 0 s29 s99) []).length : Int).toNat).drop (a1.length : Int).toNat)).bind fun x108 => if (s100.length + 1) * 24 ≤ 140737488355328 then (some (.next (w64 (s99 + 1), (s100 ++ [s101.length]), (s101 ++ [x108])))) else none) else none) else none) else (some (.stop (s99, s100, s101)))
noncomputable def spec_l04Inverse (a0 : Int) (a1 : List (List Int)) : Option (List (List Int) × Bool) :=
  (iter (fun s => spec_l04Inverse_l1 a1 s.1 s.2.1 s.2.2) (0, ([] : List Nat), ([] : List (List Int)))).bind fun o => match o with | .stop (s2, s3, s4) => ((iter (fun s => spec_l04Inverse_l27 a0 a1 s.1 s.2.1 s.2.2) (0, s3, s4)).bind fun o => match o with | .stop (s28, s29, s30) => ((iter (fun s => spec_l04Inverse_l98 a1 s29 s30 s.1 s.2.1 s.2.2) (0, ([] : List Nat), ([] : List (List Int)))).bind fun o => match o with | .stop (s99, s100, s101) => (some (((gi s100 s101), true))) | .ret r => some r | .next _ => none) | .ret r => some r | .next _ => none) | .ret r => some r | .next _ => none
theorem spec_l04Inverse_ok {w0 : World} {a0 : Int} {a1 : List (List Int)} {va1 : Value} (h1 : Ro (Kd.slice 2 (kf fI64)) w0 va1 a1) {r : List (List Int) × Bool} (hF : spec_l04Inverse a0 a1 = some r) :
    Calls Try.prog 57 [vI a0, va1].toArray w0 fun e w => ∃ v, e = .returned v ∧ Below w0.heap.size w0 w ∧ ∃ u0, .tuple #[u0, .bool r.2] = v ∧ Fresh (Kd.slice 2 (kf fI64)) 36 w0 w u0 r.1 := by
  refine calls_of (k := 183) Try.func57 rfl rfl (Nat.le_of_ble_eq_true rfl) fun a hf => ?_
  replace hf : Fr 183 a [(0, vI a0), (1, va1)] := hf
  refine c_start fun w ρ hw => ?_
  unfold spec_l04Inverse at hF
  refine c_seq <| c_region ?_
  have o1 : Ow (Kd.slice 2 (kf fI64)) 36 ρ w w0.heap.size 1 (.slice none 0 0) [] := Ow.nil _ _ _ _ _ _
  refine s_ hf (r_assign hf rfl) fun a hf => ?_
  refine s_ hf (r_assign hf rfl) fun a hf => ?_
  refine c_nt <| c_seq <| c_region ?_
  refine s_ hf (r_move hf rfl) fun a hf => ?_
  refine s_ hf (r_len Try.underlying24 (h1.now hw) hf rfl) fun a hf => ?_
  refine sx_ hf (r_lit_none (d := (Kd.slice 2 (kf fI64))) 2 Try.underlying24 el36 hw) fun a v2 w hf hΦ => ?_
  obtain ⟨ρ, hw, hE, o2⟩ := hΦ
  replace o1 := o1.ext hE
  replace o2 : Gd fI64 2 36 ρ w w0.heap.size 2 v2 (fun _ => (⟨.bool false, rfl⟩ : V1)) ([] : List Nat) ([] : List (List Int)) := Gd.empty o2 rfl (by decide) _
  refine s_ hf (r_assign hf rfl) fun a hf => ?_
  refine s_ hf (r_assign hf rfl) fun a hf => ?_
  refine c_nt <| c_seq <| c_seq <| c_region ?_
  refine s_ hf (r_assign hf rfl) fun a hf => ?_
  refine c_nt ?_
  obtain ⟨ol1, ho1, hG1⟩ := of_bind hF
  clear hF
  refine c_block (c_loop (id := 0) (fun s => spec_l04Inverse_l1 a1 s.1 s.2.1 s.2.2) (fun (s : Int × (List Nat) × (List (List Int))) a w => match s with | (s2, s3, s4) => ∃ ρ vv5 f6, Wd w0 ρ w ∧ Fr 183 a [(0, vI a0), (1, va1), (6, vI (a1.length : Int)), (7, vv5), (8, vI s2)] ∧ Gd fI64 2 36 ρ w w0.heap.size 2 vv5 f6 s3 s4) (fun (s : Int × (List Nat) × (List (List Int))) a w => match s with | (s2, s3, s4) => ∃ ρ vv5 f6, Wd w0 ρ w ∧ Fr 183 a [(0, vI a0), (6, vI (a1.length : Int)), (7, vv5)] ∧ Gd fI64 2 36 ρ w w0.heap.size 2 vv5 f6 s3 s4) ho1 ⟨_, _, _, hw, hf.sub ⟨rfl, rfl, rfl, rfl, rfl, trivial⟩, o2⟩ ?_ ?_)
  · rintro ⟨s2, s3, s4⟩ lr a w ⟨ρ, vv5, f6, hw, hf, o2⟩ hF
    replace hF : spec_l04Inverse_l1 a1 s2 s3 s4 = some lr := hF
    unfold spec_l04Inverse_l1 at hF
    refine c_seq <| c_seq <| c_region ?_
    refine s_ hf (r_move hf rfl) fun a hf => ?_
    refine s_ hf (r_move hf rfl) fun a hf => ?_
    refine s_ hf (r_lss hf rfl rfl) fun a hf => ?_
    refine c_nt ?_
    rcases of_ite hF with ⟨hb7, hF⟩ | ⟨hb7, hF⟩
    rotate_left
    · refine c_iff hf rfl hb7 <| c_exit <| x_then ?_
      obtain rfl := Option.some.inj hF
      exact Rnd.stops ⟨_, _, _, hw, hf.sub ⟨rfl, rfl, rfl, trivial⟩, o2⟩
    refine c_ift hf rfl hb7 <| c_skip <| n_then <| c_seq <| c_block <| c_seq <| c_region ?_
    refine s_ hf (r_move hf rfl) fun a hf => ?_
    refine s_ hf (r_move hf rfl) fun a hf => ?_
    obtain ⟨hc8, hF⟩ := of_guard hF
    obtain ⟨ad9, c9, u9, he9, hl9, ho9⟩ := Ro.el_row h1 hc8.1 hc8.2
    refine s_ hf (r_idx Try.underlying24 sz36 hf rfl ⟨_, he9⟩ rfl hc8.1 hc8.2) fun a hf => ?_
    refine s_ hf (r_load_cell ty36 hf rfl (hl9.below hw.below)) fun a hf => ?_
    obtain ⟨x10, hx11, hF⟩ := of_bind hF
    refine st_fn 3 hw hf rfl rfl (by decide) (r_fn en105 hf rfl) (spec_l01Own_ok (ho9.now hw) hx11) fun a v w ρ hf hw hE hN hΦ => ?_
    obtain ⟨u12, rfl, hr13⟩ := hΦ
    replace o2 := o2.ext hE
    have o3 := hN hr13
    refine s_ hf (r_assign hf rfl) fun a hf => ?_
    refine c_nt <| c_seq <| c_seq <| c_region ?_
    refine s_ hf (r_assign hf rfl) fun a hf => ?_
    refine c_nt ?_
    obtain ⟨ol14, ho14, hG14⟩ := of_bind hF
    clear hF
    refine c_block (c_loop (id := 2) (fun s => spec_l04Inverse_l14 a1 s2 s.1 s.2) (fun (s : Int × (List Int)) a w => match s with | (s15, s16) => ∃ ρ vv17, Wd w0 ρ w ∧ Fr 183 a [(0, vI a0), (1, va1), (6, vI (a1.length : Int)), (7, vv5), (8, vI s2), (9, vv17), (10, vI s15)] ∧ Gd fI64 2 36 ρ w w0.heap.size 2 vv5 f6 s3 s4 ∧ O2 ρ w w0 3 vv17 s16) (fun (s : Int × (List Int)) a w => match s with | (s15, s16) => ∃ ρ vv17, Wd w0 ρ w ∧ Fr 183 a [(0, vI a0), (1, va1), (6, vI (a1.length : Int)), (7, vv5), (8, vI s2), (9, vv17)] ∧ Gd fI64 2 36 ρ w w0.heap.size 2 vv5 f6 s3 s4 ∧ O2 ρ w w0 3 vv17 s16) ho14 ⟨_, _, hw, hf.sub ⟨rfl, rfl, rfl, rfl, rfl, rfl, rfl, trivial⟩, o2, o3⟩ ?_ ?_)
    · rintro ⟨s15, s16⟩ lr a w ⟨ρ, vv17, hw, hf, o2, o3⟩ hF
      replace hF : spec_l04Inverse_l14 a1 s2 s15 s16 = some lr := hF
      unfold spec_l04Inverse_l14 at hF
      refine c_seq <| c_seq <| c_region ?_
      refine s_ hf (r_move hf rfl) fun a hf => ?_
      refine s_ hf (r_move hf rfl) fun a hf => ?_
      refine s_ hf (r_lss hf rfl rfl) fun a hf => ?_
      refine c_nt ?_
      rcases of_ite hF with ⟨hb18, hF⟩ | ⟨hb18, hF⟩
      rotate_left
      · refine c_iff hf rfl hb18 <| c_exit <| x_then ?_
        obtain rfl := Option.some.inj hF
        exact Rnd.stops ⟨_, _, hw, hf.sub ⟨rfl, rfl, rfl, rfl, rfl, rfl, trivial⟩, o2, o3⟩
      refine c_ift hf rfl hb18 <| c_skip <| n_then <| c_seq <| c_block <| c_seq <| c_region ?_
      refine s_ hf (r_move hf rfl) fun a hf => ?_
      refine s_ hf (r_move hf rfl) fun a hf => ?_
      refine s_ hf (r_eql hf rfl rfl) fun a hf => ?_
      refine c_nt ?_
      rcases of_ite hF with ⟨hb19, hF⟩ | ⟨hb19, hF⟩
      · refine c_ift hf rfl hb19 <| c_region ?_
        refine s_ hf (r_move hf rfl) fun a hf => ?_
        refine sx_ hf (r_lit (d := fI64) (xs := ([1] : List Int)) (vs := [vI 1]) 4 Try.underlying36 el2 (Nat.le_of_ble_eq_true rfl) (Nat.le_of_ble_eq_true rfl) hw hf rfl rfl rfl) fun a v4 w hf hΦ => ?_
        obtain ⟨ρ, hw, hE, o4⟩ := hΦ
        replace o2 := o2.ext hE
        replace o3 := o3.ext hE
        obtain ⟨hc20, hF⟩ := of_guard hF
        refine sx_ hf (r_append Try.underlying36 el2 hw (by decide) o3 o4.ro hc20 hf rfl rfl) fun a va21 w hf hΦ => ?_
        obtain ⟨ρ, hw, hA, o3⟩ := hΦ
        replace o2 := o2.adv hA (by decide) (fun _ => by unfold lab; omega)
        replace o4 := o4.adv hA (by decide)
        refine s_ hf (r_assign hf rfl) fun a hf => ?_
        refine c_nil <| n_block <| n_then <| c_region ?_
        refine s_ hf (r_move hf rfl) fun a hf => ?_
        refine s_ hf (r_add hf rfl rfl) fun a hf => ?_
        refine s_ hf (r_assign hf rfl) fun a hf => ?_
        refine c_nil ?_
        obtain rfl := Option.some.inj hF
        exact Rnd.goes ⟨_, _, hw, hf.sub ⟨rfl, rfl, rfl, rfl, rfl, rfl, rfl, trivial⟩, o2, o3⟩
      refine c_iff hf rfl hb19 <| c_region ?_
      refine s_ hf (r_move hf rfl) fun a hf => ?_
      refine sx_ hf (r_lit (d := fI64) (xs := ([0] : List Int)) (vs := [vI 0]) 5 Try.underlying36 el2 (Nat.le_of_ble_eq_true rfl) (Nat.le_of_ble_eq_true rfl) hw hf rfl rfl rfl) fun a v5 w hf hΦ => ?_
      obtain ⟨ρ, hw, hE, o5⟩ := hΦ
      replace o2 := o2.ext hE
      replace o3 := o3.ext hE
      obtain ⟨hc22, hF⟩ := of_guard hF
      refine sx_ hf (r_append Try.underlying36 el2 hw (by decide) o3 o5.ro hc22 hf rfl rfl) fun a va23 w hf hΦ => ?_
      obtain ⟨ρ, hw, hA, o3⟩ := hΦ
      replace o2 := o2.adv hA (by decide) (fun _ => by unfold lab; omega)
      replace o5 := o5.adv hA (by decide)
      refine s_ hf (r_assign hf rfl) fun a hf => ?_
      refine c_nil <| n_block <| n_then <| c_region ?_
      refine s_ hf (r_move hf rfl) fun a hf => ?_
      refine s_ hf (r_add hf rfl rfl) fun a hf => ?_
      refine s_ hf (r_assign hf rfl) fun a hf => ?_
      refine c_nil ?_
      obtain rfl := Option.some.inj hF
      exact Rnd.goes ⟨_, _, hw, hf.sub ⟨rfl, rfl, rfl, rfl, rfl, rfl, rfl, trivial⟩, o2, o3⟩
    rintro ⟨s15, s16⟩ a w hs ⟨ρ, vv17, hw, hf, o2, o3⟩
    subst hs
    have hF := hG14
    dsimp only at hF
    refine x_block <| n_then <| c_region ?_
    refine s_ hf (r_move hf rfl) fun a hf => ?_
    refine s_ hf (r_move hf rfl) fun a hf => ?_
    refine sx_ hf (r_glit 6 Try.underlying24 el36 hw hf rfl o3) fun a v6 w hf hΦ => ?_
    obtain ⟨ρ, hw, hE, o6⟩ := hΦ
    replace o2 := o2.ext hE
    replace o3 := o3.ext hE
    obtain ⟨hc24, hF⟩ := of_guard hF
    refine sx_ hf (r_gapp' Try.underlying24 el36 hw (by decide) (by decide) (fun _ => by unfold lab; omega) o2 o6 o3 hc24 hf rfl rfl) fun a va25 w hf hΦ => ?_
    obtain ⟨f25, ρ, hw, hT, o2, hff25, hnu25⟩ := hΦ
    rw [hnu25] at hf
    have hn26 : s4.length < (s4 ++ [s16]).length := by simp
    refine s_ hf (r_assign hf rfl) fun a hf => ?_
    refine c_nil <| n_block <| n_then <| c_region ?_
    refine s_ hf (r_move hf rfl) fun a hf => ?_
    refine s_ hf (r_add hf rfl rfl) fun a hf => ?_
    refine s_ hf (r_assign hf rfl) fun a hf => ?_
    refine c_nil ?_
    obtain rfl := Option.some.inj hF
    exact Rnd.goes ⟨_, _, _, hw, hf.sub ⟨rfl, rfl, rfl, rfl, rfl, trivial⟩, o2⟩
  rintro ⟨s2, s3, s4⟩ a w hs ⟨ρ, vv5, f6, hw, hf, o2⟩
  subst hs
  have hF := hG1
  dsimp only at hF
  refine x_block <| n_then <| c_seq <| c_seq <| c_region ?_
  refine s_ hf (r_assign hf rfl) fun a hf => ?_
  refine c_nt ?_
  obtain ⟨ol27, ho27, hG27⟩ := of_bind hF
  clear hF
  refine c_block (c_loop (id := 4) (fun s => spec_l04Inverse_l27 a0 a1 s.1 s.2.1 s.2.2) (fun (s : Int × (List Nat) × (List (List Int))) a w => match s with | (s28, s29, s30) => ∃ ρ f31, Wd w0 ρ w ∧ Fr 183 a [(0, vI a0), (6, vI (a1.length : Int)), (7, vv5), (11, vI s28)] ∧ Gd fI64 2 36 ρ w w0.heap.size 2 vv5 f31 s29 s30) (fun (s : Int × (List Nat) × (List (List Int))) a w => match s with | (s28, s29, s30) => ∃ ρ f31, Wd w0 ρ w ∧ Fr 183 a [(6, vI (a1.length : Int)), (7, vv5)] ∧ Gd fI64 2 36 ρ w w0.heap.size 2 vv5 f31 s29 s30) ho27 ⟨_, _, hw, hf.sub ⟨rfl, rfl, rfl, rfl, trivial⟩, o2⟩ ?_ ?_)
  · rintro ⟨s28, s29, s30⟩ lr a w ⟨ρ, f31, hw, hf, o2⟩ hF
    replace hF : spec_l04Inverse_l27 a0 a1 s28 s29 s30 = some lr := hF
    unfold spec_l04Inverse_l27 at hF
    refine c_seq <| c_seq <| c_region ?_
    refine s_ hf (r_move hf rfl) fun a hf => ?_
    refine s_ hf (r_move hf rfl) fun a hf => ?_
    refine s_ hf (r_lss hf rfl rfl) fun a hf => ?_
    refine c_nt ?_
    rcases of_ite hF with ⟨hb32, hF⟩ | ⟨hb32, hF⟩
    rotate_left
    · refine c_iff hf rfl hb32 <| c_exit <| x_then ?_
      obtain rfl := Option.some.inj hF
      exact Rnd.stops ⟨_, _, hw, hf.sub ⟨rfl, rfl, trivial⟩, o2⟩
    refine c_ift hf rfl hb32 <| c_skip <| n_then <| c_seq <| c_block <| c_seq <| c_region ?_
    refine s_ hf (r_move hf rfl) fun a hf => ?_
    refine s_ hf (r_assign hf rfl) fun a hf => ?_
    refine c_nt <| c_seq ?_
    obtain ⟨ol33, ho33, hG33⟩ := of_bind hF
    clear hF
    refine c_block (c_loop (id := 6) (fun s => spec_l04Inverse_l33 a1 s28 s29 s30 s) (fun (s34 : Int) a w => ∃ ρ, Wd w0 ρ w ∧ Fr 183 a [(0, vI a0), (6, vI (a1.length : Int)), (7, vv5), (11, vI s28), (12, vI s34)] ∧ Gd fI64 2 36 ρ w w0.heap.size 2 vv5 f31 s29 s30) (fun (s34 : Int) a w => ∃ ρ, Wd w0 ρ w ∧ Fr 183 a [(0, vI a0), (6, vI (a1.length : Int)), (7, vv5), (11, vI s28), (12, vI s34)] ∧ Gd fI64 2 36 ρ w w0.heap.size 2 vv5 f31 s29 s30) ho33 ⟨_, hw, hf.sub ⟨rfl, rfl, rfl, rfl, rfl, trivial⟩, o2⟩ ?_ ?_)
    · rintro s34 lr a w ⟨ρ, hw, hf, o2⟩ hF
      replace hF : spec_l04Inverse_l33 a1 s28 s29 s30 s34 = some lr := hF
      unfold spec_l04Inverse_l33 at hF
      refine c_seq <| c_seq ?_
      obtain ⟨s36, hT35, hG35⟩ := of_bind hF
      clear hF
      refine c_meet (fun (s36 : Bool) a w => ∃ ρ, Wd w0 ρ w ∧ Fr 183 a [(0, vI a0), (6, vI (a1.length : Int)), (7, vv5), (11, vI s28), (12, vI s34), (72, .bool s36)] ∧ Gd fI64 2 36 ρ w w0.heap.size 2 vv5 f31 s29 s30) s36 ?_ ?_
      · have hF := hT35
        refine c_region ?_
        refine s_ hf (r_move hf rfl) fun a hf => ?_
        refine s_ hf (r_move hf rfl) fun a hf => ?_
        refine s_ hf (r_lss hf rfl rfl) fun a hf => ?_
        refine s_ hf (r_move hf rfl) fun a hf => ?_
        rcases of_ite hF with ⟨hb37, hF⟩ | ⟨hb37, hF⟩
        rotate_left
        · refine st_no (b := false) hf rfl rfl rfl hb37 rfl (by decide) fun a hf => ?_
          refine st_no (b := false) hf rfl rfl rfl hb37 rfl (by decide) fun a hf => ?_
          refine st_no (b := false) hf rfl rfl rfl hb37 rfl (by decide) fun a hf => ?_
          refine st_no (b := false) hf rfl rfl rfl hb37 rfl (by decide) fun a hf => ?_
          refine st_no (b := false) hf rfl rfl rfl hb37 rfl (by decide) fun a hf => ?_
          refine st_no (b := false) hf rfl rfl rfl hb37 rfl (by decide) fun a hf => ?_
          refine st_no (b := false) hf rfl rfl rfl hb37 rfl (by decide) fun a hf => ?_
          refine st_no (b := false) hf rfl rfl rfl hb37 rfl (by decide) fun a hf => ?_
          refine s_ hf (r_pick (b := false) hf rfl hb37 rfl) fun a hf => ?_
          refine c_nil ⟨rfl, ?_⟩
          obtain rfl := Option.some.inj hF
          exact ⟨_, hw, hf.sub ⟨rfl, rfl, rfl, rfl, rfl, rfl, trivial⟩, o2⟩
        refine st_g (b := true) hf rfl rfl rfl hb37 rfl (by decide) (r_move hf rfl) fun a hf => ?_
        refine st_g (b := true) hf rfl rfl rfl hb37 rfl (by decide) (r_move hf rfl) fun a hf => ?_
        obtain ⟨hc38, hF⟩ := of_guard hF
        obtain ⟨ad39, hl39⟩ := Ow.ce (d := fRef f31) o2.out 0 hc38.1 hc38.2
        have hn39 := o2.lt_gl hc38.1 hc38.2
        refine st_g (b := true) hf rfl rfl rfl hb37 rfl (by decide) (r_idx Try.underlying24 sz36 hf rfl hl39.at_ rfl hc38.1 hc38.2) fun a hf => ?_
        refine st_g (b := true) hf rfl rfl rfl hb37 rfl (by decide) (r_load_cell ty36 hf rfl hl39.co.cl) fun a hf => ?_
        refine st_g (b := true) hf rfl rfl rfl hb37 rfl (by decide) (r_move hf rfl) fun a hf => ?_
        obtain ⟨hc40, hF⟩ := of_guard hF
        obtain ⟨ad41, hl41⟩ := Ow.ce (d := fI64) (o2.rowAt hn39) 0 hc40.1 hc40.2
        refine st_g (b := true) hf rfl rfl rfl hb37 rfl (by decide) (r_idx Try.underlying36 sz2 hf rfl hl41.at_ rfl hc40.1 hc40.2) fun a hf => ?_
        refine st_g (b := true) hf rfl rfl rfl hb37 rfl (by decide) (r_load_cell ty2 hf rfl hl41.co.cl) fun a hf => ?_
        refine st_g (b := true) hf rfl rfl rfl hb37 rfl (by decide) (r_eql hf rfl rfl) fun a hf => ?_
        refine s_ hf (r_pick (b := true) hf rfl hb37 rfl) fun a hf => ?_
        refine c_nil ⟨rfl, ?_⟩
        obtain rfl := Option.some.inj hF
        exact ⟨_, hw, hf.sub ⟨rfl, rfl, rfl, rfl, rfl, rfl, trivial⟩, o2⟩
      rintro a w ⟨ρ, hw, hf, o2⟩
      have hF := hG35
      refine n_then ?_
      rcases of_ite hF with ⟨hb42, hF⟩ | ⟨hb42, hF⟩
      rotate_left
      · refine c_iff hf rfl hb42 <| c_exit <| x_then ?_
        obtain rfl := Option.some.inj hF
        exact Rnd.stops ⟨_, hw, hf.sub ⟨rfl, rfl, rfl, rfl, rfl, trivial⟩, o2⟩
      refine c_ift hf rfl hb42 <| c_skip <| n_then <| c_block <| c_region ?_
      refine s_ hf (r_move hf rfl) fun a hf => ?_
      refine s_ hf (r_add hf rfl rfl) fun a hf => ?_
      refine s_ hf (r_assign hf rfl) fun a hf => ?_
      refine c_nil <| n_block ?_
      obtain rfl := Option.some.inj hF
      exact Rnd.goes ⟨_, hw, hf.sub ⟨rfl, rfl, rfl, rfl, rfl, trivial⟩, o2⟩
    rintro s34 a w hs ⟨ρ, hw, hf, o2⟩
    subst hs
    have hF := hG33
    dsimp only at hF
    refine x_block <| n_then <| c_seq <| c_seq <| c_region ?_
    refine s_ hf (r_move hf rfl) fun a hf => ?_
    refine s_ hf (r_move hf rfl) fun a hf => ?_
    refine s_ hf (r_eql hf rfl rfl) fun a hf => ?_
    refine c_nt ?_
    rcases of_ite hF with ⟨hb43, hF⟩ | ⟨hb43, hF⟩
    · refine c_ift hf rfl hb43 <| c_seq <| c_region ?_
      have o11 : Ow (Kd.slice 2 (kf fI64)) 36 ρ w w0.heap.size 11 (.slice none 0 0) [] := Ow.nil _ _ _ _ _ _
      refine s_ hf (r_assign hf rfl) fun a hf => ?_
      refine s_ hf (r_assign hf rfl) fun a hf => ?_
      refine c_nt <| c_retc ?_
      obtain rfl := Option.some.inj hF
      refine r_then <| r_block <| r_then ?_
      refine Rnd.rets fun ho => ?_
      subst ho
      have hF := hG27
      dsimp only at hF
      obtain rfl := Option.some.inj hF
      refine r_block <| r_then <| c_ret hf (res_tt Try.results57 hf rfl rfl) ?_
      exact ⟨_, rfl, hw.below, ⟨_, rfl, o11.out⟩⟩
    refine c_iff hf rfl hb43 <| c_skip <| n_then <| c_seq <| c_region ?_
    refine s_ hf (r_move hf rfl) fun a hf => ?_
    refine s_ hf (r_move hf rfl) fun a hf => ?_
    obtain ⟨hc44, hF⟩ := of_guard hF
    obtain ⟨ad45, hl45⟩ := Ow.ce (d := fRef f31) o2.out 0 hc44.1 hc44.2
    have hn45 := o2.lt_gl hc44.1 hc44.2
    refine s_ hf (r_idx Try.underlying24 sz36 hf rfl hl45.at_ rfl hc44.1 hc44.2) fun a hf => ?_
    refine s_ hf (r_load_cell ty36 hf rfl hl45.co.cl) fun a hf => ?_
    refine sx_ hf (r_lit (d := fI64) (xs := ([] : List Int)) (vs := []) 14 Try.underlying36 el2 (Nat.le_of_ble_eq_true rfl) (Nat.le_of_ble_eq_true rfl) hw hf rfl rfl rfl) fun a v14 w hf hΦ => ?_
    obtain ⟨ρ, hw, hE, o14⟩ := hΦ
    replace o2 := o2.ext hE
    replace hl45 := hl45.ext hE
    refine s_ hf (r_assign hf rfl) fun a hf => ?_
    refine s_ hf (r_assign hf rfl) fun a hf => ?_
    refine c_nt <| c_seq <| c_region ?_
    refine s_ hf (r_move hf rfl) fun a hf => ?_
    refine s_ hf (r_move hf rfl) fun a hf => ?_
    refine s_ hf (r_move hf rfl) fun a hf => ?_
    refine s_ hf (r_move hf rfl) fun a hf => ?_
    obtain ⟨hc46, hF⟩ := of_guard hF
    obtain ⟨ad47, hl47⟩ := Ow.ce (d := fRef f31) o2.out 0 hc46.1 hc46.2
    have hn47 := o2.lt_gl hc46.1 hc46.2
    refine s_ hf (r_idx Try.underlying24 sz36 hf rfl hl47.at_ rfl hc46.1 hc46.2) fun a hf => ?_
    refine s_ hf (r_load_cell ty36 hf rfl hl47.co.cl) fun a hf => ?_
    obtain ⟨ad48, hl48⟩ := Ow.ce (d := fRef f31) o2.out 0 hc44.1 hc44.2
    have hn48 := o2.lt_gl hc44.1 hc44.2
    refine s_ hf (r_idx Try.underlying24 sz36 hf rfl hl48.at_ rfl hc44.1 hc44.2) fun a hf => ?_
    refine sk_ hf (r_gset (p := s34) hw o2 hn47 hc44.1 hc44.2 hl48.at_ ty36 rfl hf rfl rfl) fun a w hf hΦ => ?_
    obtain ⟨hw, hA, o2⟩ := hΦ
    replace o14 := o14.adv hA (by decide)
    refine c_nt <| c_seq <| c_region ?_
    refine s_ hf (r_move hf rfl) fun a hf => ?_
    refine s_ hf (r_move hf rfl) fun a hf => ?_
    refine s_ hf (r_move hf rfl) fun a hf => ?_
    obtain ⟨hc49, hF⟩ := of_guard hF
    obtain ⟨ad50, hl50⟩ := Ow.ce (d := fI64) (o2.rowAt hn45) 0 hc49.1 hc49.2
    refine s_ hf (r_idx Try.underlying36 sz2 hf rfl hl50.at_ rfl hc49.1 hc49.2) fun a hf => ?_
    refine s_ hf (r_load_cell ty2 hf rfl hl50.co.cl) fun a hf => ?_
    obtain ⟨x51, hx52, hF⟩ := of_bind hF
    refine st_fn 20 hw hf rfl rfl (by decide) (r_fn en113 hf rfl) (spec_l01Inverse_ok  hx52) fun a v w ρ hf hw hE hN hΦ => ?_
    obtain rfl := hΦ
    replace o2 := o2.ext hE
    replace o14 := o14.ext hE
    replace hl50 := hl50.ext hE
    refine s_ hf (r_assign hf rfl) fun a hf => ?_
    refine c_nt <| c_seq <| c_seq <| c_region ?_
    refine s_ hf (r_assign hf rfl) fun a hf => ?_
    refine c_nt ?_
    obtain ⟨ol53, ho53, hG53⟩ := of_bind hF
    clear hF
    refine c_block (c_loop (id := 8) (fun s => spec_l04Inverse_l53 a0 a1 s29 s30 s34 x51 s.1 s.2) (fun (s : Int × (List Int)) a w => match s with | (s54, s55) => ∃ ρ vv56, Wd w0 ρ w ∧ Fr 183 a [(0, vI a0), (6, vI (a1.length : Int)), (7, vv5), (11, vI s28), (13, (f31 (gl 0 s29 s34)).1), (14, vv56), (15, vI x51), (16, vI s54)] ∧ Gd fI64 2 36 ρ w w0.heap.size 2 vv5 f31 (s29.set s34.toNat (gl 0 s29 s28)) s30 ∧ (gl 0 s29 s34) < s30.length ∧ O2 ρ w w0 14 vv56 s55) (fun (s : Int × (List Int)) a w => match s with | (s54, s55) => ∃ ρ vv56, Wd w0 ρ w ∧ Fr 183 a [(0, vI a0), (6, vI (a1.length : Int)), (7, vv5), (11, vI s28), (14, vv56)] ∧ Gd fI64 2 36 ρ w w0.heap.size 2 vv5 f31 (s29.set s34.toNat (gl 0 s29 s28)) s30 ∧ O2 ρ w w0 14 vv56 s55) ho53 ⟨_, _, hw, hf.sub ⟨rfl, rfl, rfl, rfl, rfl, rfl, rfl, rfl, trivial⟩, o2, hn45, o14⟩ ?_ ?_)
    · rintro ⟨s54, s55⟩ lr a w ⟨ρ, vv56, hw, hf, o2, hn45, o14⟩ hF
      replace hF : spec_l04Inverse_l53 a0 a1 s29 s30 s34 x51 s54 s55 = some lr := hF
      unfold spec_l04Inverse_l53 at hF
      refine c_seq <| c_seq <| c_region ?_
      refine s_ hf (r_move hf rfl) fun a hf => ?_
      refine s_ hf (r_move hf rfl) fun a hf => ?_
      refine s_ hf (r_mul hf rfl rfl) fun a hf => ?_
      refine s_ hf (r_lss hf rfl rfl) fun a hf => ?_
      refine c_nt ?_
      rcases of_ite hF with ⟨hb57, hF⟩ | ⟨hb57, hF⟩
      rotate_left
      · refine c_iff hf rfl hb57 <| c_exit <| x_then ?_
        obtain rfl := Option.some.inj hF
        exact Rnd.stops ⟨_, _, hw, hf.sub ⟨rfl, rfl, rfl, rfl, rfl, trivial⟩, o2, o14⟩
      refine c_ift hf rfl hb57 <| c_skip <| n_then <| c_seq <| c_block <| c_region ?_
      refine s_ hf (r_move hf rfl) fun a hf => ?_
      refine s_ hf (r_move hf rfl) fun a hf => ?_
      refine s_ hf (r_move hf rfl) fun a hf => ?_
      obtain ⟨hc58, hF⟩ := of_guard hF
      obtain ⟨ad59, hl59⟩ := Ow.ce (d := fI64) (o2.rowAt hn45) 0 hc58.1 hc58.2
      refine s_ hf (r_idx Try.underlying36 sz2 hf rfl hl59.at_ rfl hc58.1 hc58.2) fun a hf => ?_
      refine s_ hf (r_load_cell ty2 hf rfl hl59.co.cl) fun a hf => ?_
      refine s_ hf (r_move hf rfl) fun a hf => ?_
      refine s_ hf (r_mul hf rfl rfl) fun a hf => ?_
      refine s_ hf (r_move hf rfl) fun a hf => ?_
      obtain ⟨hc60, hF⟩ := of_guard hF
      refine s_ hf (r_rem hf rfl rfl hc60) fun a hf => ?_
      refine sx_ hf (r_lit (d := fI64) (xs := ([(w64 ((gl 0 (s30.getD (gl 0 s29 s34) []) s54) * x51)).tmod a0] : List Int)) (vs := [vI ((w64 ((gl 0 (s30.getD (gl 0 s29 s34) []) s54) * x51)).tmod a0)]) 22 Try.underlying36 el2 (Nat.le_of_ble_eq_true rfl) (Nat.le_of_ble_eq_true rfl) hw hf rfl rfl rfl) fun a v22 w hf hΦ => ?_
      obtain ⟨ρ, hw, hE, o22⟩ := hΦ
      replace o2 := o2.ext hE
      replace o14 := o14.ext hE
      replace hl59 := hl59.ext hE
      obtain ⟨hc61, hF⟩ := of_guard hF
      refine sx_ hf (r_append Try.underlying36 el2 hw (by decide) o14 o22.ro hc61 hf rfl rfl) fun a va62 w hf hΦ => ?_
      obtain ⟨ρ, hw, hA, o14⟩ := hΦ
      replace o2 := o2.adv hA (by decide) (fun _ => by unfold lab; omega)
      replace hl59 := hl59.adv hA (by unfold lab; omega)
      replace o22 := o22.adv hA (by decide)
      refine s_ hf (r_assign hf rfl) fun a hf => ?_
      refine c_nil <| n_block <| n_then <| c_region ?_
      refine s_ hf (r_move hf rfl) fun a hf => ?_
      refine s_ hf (r_add hf rfl rfl) fun a hf => ?_
      refine s_ hf (r_assign hf rfl) fun a hf => ?_
      refine c_nil ?_
      obtain rfl := Option.some.inj hF
      exact Rnd.goes ⟨_, _, hw, hf.sub ⟨rfl, rfl, rfl, rfl, rfl, rfl, rfl, rfl, trivial⟩, o2, hn45, o14⟩
    rintro ⟨s54, s55⟩ a w hs ⟨ρ, vv56, hw, hf, o2, o14⟩
    subst hs
    have hF := hG53
    dsimp only at hF
    refine x_block <| n_then <| c_seq <| c_region ?_
    refine s_ hf (r_move hf rfl) fun a hf => ?_
    refine s_ hf (r_move hf rfl) fun a hf => ?_
    refine s_ hf (r_move hf rfl) fun a hf => ?_
    obtain ⟨hc63, hF⟩ := of_guard hF
    obtain ⟨ad64, hl64⟩ := Ow.ce (d := fRef f31) o2.out 0 hc63.1 hc63.2
    have hn64 := o2.lt_gl hc63.1 hc63.2
    refine s_ hf (r_idx Try.underlying24 sz36 hf rfl hl64.at_ rfl hc63.1 hc63.2) fun a hf => ?_
    refine sk_ hf (r_gput (p := s28) hw (by decide) (by decide) (fun _ => by unfold lab; omega) o2 o14 hc63.1 hc63.2 hl64.at_ ty36 rfl hf rfl rfl) fun a w hf hΦ => ?_
    obtain ⟨f65, ρ, hw, hT, o2, hff65, hnu65⟩ := hΦ
    rw [hnu65] at hf
    replace hn64 : (gl 0 (s29.set s34.toNat (gl 0 s29 s28)) s28) < (s30 ++ [s55]).length := by simp only [List.length_append, List.length_set]; omega
    have hn66 : s30.length < (s30 ++ [s55]).length := by simp
    refine c_nt <| c_seq <| c_region ?_
    refine s_ hf (r_assign hf rfl) fun a hf => ?_
    refine c_nt ?_
    obtain ⟨ol67, ho67, hG67⟩ := of_bind hF
    clear hF
    refine c_block (c_loop (id := 10) (fun s => spec_l04Inverse_l67 a0 a1 s28 s30 s.1 s.2.1 s.2.2) (fun (s : Int × (List Nat) × (List (List Int))) a w => match s with | (s68, s69, s70) => ∃ ρ f71, Wd w0 ρ w ∧ Fr 183 a [(0, vI a0), (6, vI (a1.length : Int)), (7, vv5), (11, vI s28), (14, (f71 s30.length).1), (17, vI s68)] ∧ Gd fI64 2 36 ρ w w0.heap.size 2 vv5 f71 s69 s70 ∧ s30.length < s70.length) (fun (s : Int × (List Nat) × (List (List Int))) a w => match s with | (s68, s69, s70) => ∃ ρ f71, Wd w0 ρ w ∧ Fr 183 a [(0, vI a0), (6, vI (a1.length : Int)), (7, vv5), (11, vI s28)] ∧ Gd fI64 2 36 ρ w w0.heap.size 2 vv5 f71 s69 s70) ho67 ⟨_, _, hw, hf.sub ⟨rfl, rfl, rfl, rfl, rfl, rfl, trivial⟩, o2, hn66⟩ ?_ ?_)
    · rintro ⟨s68, s69, s70⟩ lr a w ⟨ρ, f71, hw, hf, o2, hn66⟩ hF
      replace hF : spec_l04Inverse_l67 a0 a1 s28 s30 s68 s69 s70 = some lr := hF
      unfold spec_l04Inverse_l67 at hF
      refine c_seq <| c_seq <| c_region ?_
      refine s_ hf (r_move hf rfl) fun a hf => ?_
      refine s_ hf (r_move hf rfl) fun a hf => ?_
      refine s_ hf (r_lss hf rfl rfl) fun a hf => ?_
      refine c_nt ?_
      rcases of_ite hF with ⟨hb72, hF⟩ | ⟨hb72, hF⟩
      rotate_left
      · refine c_iff hf rfl hb72 <| c_exit <| x_then ?_
        obtain rfl := Option.some.inj hF
        exact Rnd.stops ⟨_, _, hw, hf.sub ⟨rfl, rfl, rfl, rfl, trivial⟩, o2⟩
      refine c_ift hf rfl hb72 <| c_skip <| n_then <| c_seq <| c_block <| c_seq <| c_region ?_
      refine s_ hf (r_move hf rfl) fun a hf => ?_
      refine s_ hf (r_move hf rfl) fun a hf => ?_
      obtain ⟨hc73, hF⟩ := of_guard hF
      obtain ⟨ad74, hl74⟩ := Ow.ce (d := fRef f71) o2.out 0 hc73.1 hc73.2
      have hn74 := o2.lt_gl hc73.1 hc73.2
      refine s_ hf (r_idx Try.underlying24 sz36 hf rfl hl74.at_ rfl hc73.1 hc73.2) fun a hf => ?_
      refine s_ hf (r_load_cell ty36 hf rfl hl74.co.cl) fun a hf => ?_
      refine s_ hf (r_move hf rfl) fun a hf => ?_
      obtain ⟨hc75, hF⟩ := of_guard hF
      obtain ⟨ad76, hl76⟩ := Ow.ce (d := fI64) (o2.rowAt hn74) 0 hc75.1 hc75.2
      refine s_ hf (r_idx Try.underlying36 sz2 hf rfl hl76.at_ rfl hc75.1 hc75.2) fun a hf => ?_
      refine s_ hf (r_load_cell ty2 hf rfl hl76.co.cl) fun a hf => ?_
      refine sx_ hf (r_lit (d := fI64) (xs := ([] : List Int)) (vs := []) 29 Try.underlying36 el2 (Nat.le_of_ble_eq_true rfl) (Nat.le_of_ble_eq_true rfl) hw hf rfl rfl rfl) fun a v29 w hf hΦ => ?_
      obtain ⟨ρ, hw, hE, o29⟩ := hΦ
      replace o2 := o2.ext hE
      replace hl74 := hl74.ext hE
      replace hl76 := hl76.ext hE
      refine s_ hf (r_assign hf rfl) fun a hf => ?_
      refine s_ hf (r_assign hf rfl) fun a hf => ?_
      refine c_nt <| c_seq <| c_seq ?_
      obtain ⟨s78, hT77, hG77⟩ := of_bind hF
      clear hF
      refine c_meet (fun (s78 : Bool) a w => ∃ ρ, Wd w0 ρ w ∧ Fr 183 a [(0, vI a0), (6, vI (a1.length : Int)), (7, vv5), (11, vI s28), (14, (f71 s30.length).1), (17, vI s68), (18, vI (gl 0 (s70.getD (gl 0 s69 s68) []) s28)), (19, v29), (136, .bool s78)] ∧ Gd fI64 2 36 ρ w w0.heap.size 2 vv5 f71 s69 s70 ∧ s30.length < s70.length ∧ O2 ρ w w0 29 v29 ([] : List Int)) s78 ?_ ?_
      · have hF := hT77
        refine c_region ?_
        refine s_ hf (r_move hf rfl) fun a hf => ?_
        refine s_ hf (r_move hf rfl) fun a hf => ?_
        refine s_ hf (r_eql hf rfl rfl) fun a hf => ?_
        refine s_ hf (r_move hf rfl) fun a hf => ?_
        rcases of_ite hF with ⟨hb79, hF⟩ | ⟨hb79, hF⟩
        · refine st_no (b := true) hf rfl rfl rfl hb79 rfl (by decide) fun a hf => ?_
          refine st_no (b := true) hf rfl rfl rfl hb79 rfl (by decide) fun a hf => ?_
          refine s_ hf (r_pick (b := true) hf rfl hb79 rfl) fun a hf => ?_
          refine c_nil ⟨rfl, ?_⟩
          obtain rfl := Option.some.inj hF
          exact ⟨_, hw, hf.sub ⟨rfl, rfl, rfl, rfl, rfl, rfl, rfl, rfl, rfl, trivial⟩, o2, hn66, o29⟩
        refine st_g (b := false) hf rfl rfl rfl hb79 rfl (by decide) (r_move hf rfl) fun a hf => ?_
        refine st_g (b := false) hf rfl rfl rfl hb79 rfl (by decide) (r_eql hf rfl rfl) fun a hf => ?_
        refine s_ hf (r_pick (b := false) hf rfl hb79 rfl) fun a hf => ?_
        refine c_nil ⟨rfl, ?_⟩
        obtain rfl := Option.some.inj hF
        exact ⟨_, hw, hf.sub ⟨rfl, rfl, rfl, rfl, rfl, rfl, rfl, rfl, rfl, trivial⟩, o2, hn66, o29⟩
      rintro a w ⟨ρ, hw, hf, o2, hn66, o29⟩
      have hF := hG77
      refine n_then ?_
      rcases of_ite hF with ⟨hb80, hF⟩ | ⟨hb80, hF⟩
      · refine c_ift hf rfl hb80 <| c_exit <| x_then <| x_block <| n_then <| c_region ?_
        refine s_ hf (r_move hf rfl) fun a hf => ?_
        refine s_ hf (r_add hf rfl rfl) fun a hf => ?_
        refine s_ hf (r_assign hf rfl) fun a hf => ?_
        refine c_nil ?_
        obtain rfl := Option.some.inj hF
        exact Rnd.goes ⟨_, _, hw, hf.sub ⟨rfl, rfl, rfl, rfl, rfl, rfl, trivial⟩, o2, hn66⟩
      refine c_iff hf rfl hb80 <| c_skip <| n_then <| c_seq <| c_seq <| c_region ?_
      refine s_ hf (r_assign hf rfl) fun a hf => ?_
      refine c_nt ?_
      obtain ⟨ol81, ho81, hG81⟩ := of_bind hF
      clear hF
      refine c_block (c_loop (id := 12) (fun s => spec_l04Inverse_l81 a0 a1 s28 s30 s68 s69 s70 s.1 s.2) (fun (s : Int × (List Int)) a w => match s with | (s82, s83) => ∃ ρ vv84, Wd w0 ρ w ∧ Fr 183 a [(0, vI a0), (6, vI (a1.length : Int)), (7, vv5), (11, vI s28), (14, (f71 s30.length).1), (17, vI s68), (18, vI (gl 0 (s70.getD (gl 0 s69 s68) []) s28)), (19, vv84), (20, vI s82)] ∧ Gd fI64 2 36 ρ w w0.heap.size 2 vv5 f71 s69 s70 ∧ s30.length < s70.length ∧ O2 ρ w w0 29 vv84 s83) (fun (s : Int × (List Int)) a w => match s with | (s82, s83) => ∃ ρ vv84, Wd w0 ρ w ∧ Fr 183 a [(0, vI a0), (6, vI (a1.length : Int)), (7, vv5), (11, vI s28), (14, (f71 s30.length).1), (17, vI s68), (19, vv84)] ∧ Gd fI64 2 36 ρ w w0.heap.size 2 vv5 f71 s69 s70 ∧ s30.length < s70.length ∧ O2 ρ w w0 29 vv84 s83) ho81 ⟨_, _, hw, hf.sub ⟨rfl, rfl, rfl, rfl, rfl, rfl, rfl, rfl, rfl, trivial⟩, o2, hn66, o29⟩ ?_ ?_)
      · rintro ⟨s82, s83⟩ lr a w ⟨ρ, vv84, hw, hf, o2, hn66, o29⟩ hF
        replace hF : spec_l04Inverse_l81 a0 a1 s28 s30 s68 s69 s70 s82 s83 = some lr := hF
        unfold spec_l04Inverse_l81 at hF
        refine c_seq <| c_seq <| c_region ?_
        refine s_ hf (r_move hf rfl) fun a hf => ?_
        refine s_ hf (r_move hf rfl) fun a hf => ?_
        refine s_ hf (r_mul hf rfl rfl) fun a hf => ?_
        refine s_ hf (r_lss hf rfl rfl) fun a hf => ?_
        refine c_nt ?_
        rcases of_ite hF with ⟨hb85, hF⟩ | ⟨hb85, hF⟩
        rotate_left
        · refine c_iff hf rfl hb85 <| c_exit <| x_then ?_
          obtain rfl := Option.some.inj hF
          exact Rnd.stops ⟨_, _, hw, hf.sub ⟨rfl, rfl, rfl, rfl, rfl, rfl, rfl, trivial⟩, o2, hn66, o29⟩
        refine c_ift hf rfl hb85 <| c_skip <| n_then <| c_seq <| c_block ?_
        obtain ⟨hc87, hF⟩ := of_guard hF
        obtain ⟨hc89, hF⟩ := of_guard hF
        obtain ⟨x91, hx92, hF⟩ := of_bind hF
        replace hf : Fr 183 a [(0, vI a0), (6, vI (a1.length : Int)), (7, vv5), (11, vI s28), (14, (f71 s30.length).1), (17, vI s68), (18, vI (gl 0 (s70.getD (gl 0 s69 s68) []) s28)), (19, vv84), (20, vI s82)] := hf.sub ⟨rfl, rfl, rfl, rfl, rfl, rfl, rfl, rfl, rfl, trivial⟩
        refine c_drawL (h := 18) mixed (by kernel_rfl) (by kernel_rfl) (fun ρ w => Gd fI64 2 36 ρ w w0.heap.size 2 vv5 f71 s69 s70 ∧ s30.length < s70.length ∧ O2 ρ w w0 29 vv84 s83) ?_ [fun ρ w v => vv84 = v, fun ρ w v => vI a0 = v, fun ρ w v => vv5 = v, fun ρ w v => vI s68 = v, fun ρ w v => ∃ ad86, .pointer (some (ad86.add (s68.toNat * 1))) = v ∧ (gl 0 s69 s68) < s70.length ∧ Ce ρ w 2 vv5 s69.length ad86 (s68.toNat * 1) ([(f71 (gl 0 s69 s68)).1]), fun ρ w v => (f71 (gl 0 s69 s68)).1 = v ∧ (gl 0 s69 s68) < s70.length, fun ρ w v => vI s82 = v, fun ρ w v => ∃ ad88, .pointer (some (ad88.add (s82.toNat * 1))) = v ∧ Ce ρ w (lab 2 (gl 0 s69 s68)) ((f71 (gl 0 s69 s68)).1) ((s70.getD (gl 0 s69 s68) []).length) ad88 (s82.toNat * 1) (fI64.enc (gl 0 (s70.getD (gl 0 s69 s68) []) s82)), fun ρ w v => vI (gl 0 (s70.getD (gl 0 s69 s68) []) s82) = v, fun ρ w v => vI (gl 0 (s70.getD (gl 0 s69 s68) []) s28) = v, fun ρ w v => (f71 s30.length).1 = v, fun ρ w v => vI s82 = v, fun ρ w v => ∃ ad90, .pointer (some (ad90.add (s82.toNat * 1))) = v ∧ Ce ρ w (lab 2 s30.length) ((f71 s30.length).1) ((s70.getD s30.length []).length) ad90 (s82.toNat * 1) (fI64.enc (gl 0 (s70.getD s30.length []) s82)), fun ρ w v => vI (gl 0 (s70.getD s30.length []) s82) = v, fun ρ w v => vI (w64 ((gl 0 (s70.getD (gl 0 s69 s68) []) s28) * (gl 0 (s70.getD s30.length []) s82))) = v, fun ρ w v => vI (w64 ((gl 0 (s70.getD (gl 0 s69 s68) []) s82) - (w64 ((gl 0 (s70.getD (gl 0 s69 s68) []) s28) * (gl 0 (s70.getD s30.length []) s82))))) = v, fun ρ w v => vI x91 = v, fun ρ w v => ∃ v35, v35 = v ∧ O2 ρ w w0 35 v35 ([x91])] ?_ hw ⟨o2, hn66, o29⟩ hf ?_ ?_
        · intro ρ w ρ' w' hE hG
          obtain ⟨o2, hn66, o29⟩ := hG
          exact ⟨o2.ext hE, hn66, o29.ext hE⟩
        · exact LastsL.cons (fun _ _ _ _ _ _ h => h) <| LastsL.cons (fun _ _ _ _ _ _ h => h) <| LastsL.cons (fun _ _ _ _ _ _ h => h) <| LastsL.cons (fun _ _ _ _ _ _ h => h) <| LastsL.cons (fun _ _ _ _ _ hE h => by obtain ⟨ad86, h, hn86, hl86⟩ := h; exact ⟨_, h, hn86, hl86.ext hE⟩) <| LastsL.cons (fun _ _ _ _ _ hE h => by obtain ⟨h, hn86⟩ := h; exact ⟨h, hn86⟩) <| LastsL.cons (fun _ _ _ _ _ _ h => h) <| LastsL.cons (fun _ _ _ _ _ hE h => by obtain ⟨ad88, h, hl88⟩ := h; exact ⟨_, h, hl88.ext hE⟩) <| LastsL.cons (fun _ _ _ _ _ _ h => h) <| LastsL.cons (fun _ _ _ _ _ _ h => h) <| LastsL.cons (fun _ _ _ _ _ _ h => h) <| LastsL.cons (fun _ _ _ _ _ _ h => h) <| LastsL.cons (fun _ _ _ _ _ hE h => by obtain ⟨ad90, h, hl90⟩ := h; exact ⟨_, h, hl90.ext hE⟩) <| LastsL.cons (fun _ _ _ _ _ _ h => h) <| LastsL.cons (fun _ _ _ _ _ _ h => h) <| LastsL.cons (fun _ _ _ _ _ _ h => h) <| LastsL.cons (fun _ _ _ _ _ _ h => h) <| LastsL.cons (fun _ _ _ _ _ hE h => by obtain ⟨v35, h, o35⟩ := h; exact ⟨_, h, o35.ext hE⟩) <| LastsL.nil
        · refine StepsB.cons ?_ <| StepsB.cons ?_ <| StepsB.cons ?_ <| StepsB.cons ?_ <| StepsB.cons ?_ <| StepsB.cons ?_ <| StepsB.cons ?_ <| StepsB.cons ?_ <| StepsB.cons ?_ <| StepsB.cons ?_ <| StepsB.cons ?_ <| StepsB.cons ?_ <| StepsB.cons ?_ <| StepsB.cons ?_ <| StepsB.cons ?_ <| StepsB.cons ?_ <| StepsB.cons ?_ <| StepsB.cons ?_ <| StepsB.nil
          · intro ρ w a hw hG hf hd K hK
            obtain ⟨o2, hn66, o29⟩ := hG
            exact dv_ hK hw (wn rfl) (r_move hf rfl) rfl
          · intro ρ w a hw hG hf hd K hK
            obtain ⟨o2, hn66, o29⟩ := hG
            exact dv_ hK hw (wn rfl) (r_move hf rfl) rfl
          · intro ρ w a hw hG hf hd K hK
            obtain ⟨o2, hn66, o29⟩ := hG
            exact dv_ hK hw (wn rfl) (r_move hf rfl) rfl
          · intro ρ w a hw hG hf hd K hK
            obtain ⟨o2, hn66, o29⟩ := hG
            exact dv_ hK hw (wn rfl) (r_move hf rfl) rfl
          · intro ρ w a hw hG hf hd K hK
            obtain ⟨o2, hn66, o29⟩ := hG
            obtain ⟨_, hf, rfl⟩ := got (hd 2 (by kernel_rfl)) hf
            obtain ⟨_, hf, rfl⟩ := got (hd 3 (by kernel_rfl)) hf
            obtain ⟨ad86, hl86⟩ := Ow.ce (d := fRef f71) o2.out 0 hc73.1 hc73.2
            have hn86 := o2.lt_gl hc73.1 hc73.2
            exact dv_ hK hw (wn rfl) (r_idx Try.underlying24 sz36 hf rfl hl86.at_ rfl hc73.1 hc73.2) (ex_ <| an_ rfl <| an_ hn86 <| hl86)
          · intro ρ w a hw hG hf hd K hK
            obtain ⟨o2, hn66, o29⟩ := hG
            obtain ⟨_, hf, ⟨ad86, rfl, hn86, hl86⟩⟩ := got (hd 4 (by kernel_rfl)) hf
            exact dv_ hK hw (wn rfl) (r_load_cell ty36 hf rfl hl86.co.cl) (an_ rfl <| hn86)
          · intro ρ w a hw hG hf hd K hK
            obtain ⟨o2, hn66, o29⟩ := hG
            exact dv_ hK hw (wn rfl) (r_move hf rfl) rfl
          · intro ρ w a hw hG hf hd K hK
            obtain ⟨o2, hn66, o29⟩ := hG
            obtain ⟨_, hf, ⟨rfl, hn86⟩⟩ := got (hd 5 (by kernel_rfl)) hf
            obtain ⟨_, hf, rfl⟩ := got (hd 6 (by kernel_rfl)) hf
            obtain ⟨ad88, hl88⟩ := Ow.ce (d := fI64) (o2.rowAt hn86) 0 hc87.1 hc87.2
            exact dv_ hK hw (wn rfl) (r_idx Try.underlying36 sz2 hf rfl hl88.at_ rfl hc87.1 hc87.2) (ex_ <| an_ rfl <| hl88)
          · intro ρ w a hw hG hf hd K hK
            obtain ⟨o2, hn66, o29⟩ := hG
            obtain ⟨_, hf, ⟨ad88, rfl, hl88⟩⟩ := got (hd 7 (by kernel_rfl)) hf
            exact dv_ hK hw (wn rfl) (r_load_cell ty2 hf rfl hl88.co.cl) rfl
          · intro ρ w a hw hG hf hd K hK
            obtain ⟨o2, hn66, o29⟩ := hG
            exact dv_ hK hw (wn rfl) (r_move hf rfl) rfl
          · intro ρ w a hw hG hf hd K hK
            obtain ⟨o2, hn66, o29⟩ := hG
            exact dv_ hK hw (wn rfl) (r_move hf rfl) rfl
          · intro ρ w a hw hG hf hd K hK
            obtain ⟨o2, hn66, o29⟩ := hG
            exact dv_ hK hw (wn rfl) (r_move hf rfl) rfl
          · intro ρ w a hw hG hf hd K hK
            obtain ⟨o2, hn66, o29⟩ := hG
            obtain ⟨_, hf, rfl⟩ := got (hd 10 (by kernel_rfl)) hf
            obtain ⟨_, hf, rfl⟩ := got (hd 11 (by kernel_rfl)) hf
            obtain ⟨ad90, hl90⟩ := Ow.ce (d := fI64) (o2.rowAt hn66) 0 hc89.1 hc89.2
            exact dv_ hK hw (wn rfl) (r_idx Try.underlying36 sz2 hf rfl hl90.at_ rfl hc89.1 hc89.2) (ex_ <| an_ rfl <| hl90)
          · intro ρ w a hw hG hf hd K hK
            obtain ⟨o2, hn66, o29⟩ := hG
            obtain ⟨_, hf, ⟨ad90, rfl, hl90⟩⟩ := got (hd 12 (by kernel_rfl)) hf
            exact dv_ hK hw (wn rfl) (r_load_cell ty2 hf rfl hl90.co.cl) rfl
          · intro ρ w a hw hG hf hd K hK
            obtain ⟨o2, hn66, o29⟩ := hG
            obtain ⟨_, hf, rfl⟩ := got (hd 9 (by kernel_rfl)) hf
            obtain ⟨_, hf, rfl⟩ := got (hd 13 (by kernel_rfl)) hf
            exact dv_ hK hw (wn rfl) (r_mul hf rfl rfl) rfl
          · intro ρ w a hw hG hf hd K hK
            obtain ⟨o2, hn66, o29⟩ := hG
            obtain ⟨_, hf, rfl⟩ := got (hd 8 (by kernel_rfl)) hf
            obtain ⟨_, hf, rfl⟩ := got (hd 14 (by kernel_rfl)) hf
            exact dv_ hK hw (wn rfl) (r_sub hf rfl rfl) rfl
          · intro ρ w a hw hG hf hd K hK
            obtain ⟨o2, hn66, o29⟩ := hG
            obtain ⟨_, hf, rfl⟩ := got (hd 1 (by kernel_rfl)) hf
            obtain ⟨_, hf, rfl⟩ := got (hd 15 (by kernel_rfl)) hf
            refine dc_ hK hw (wn rfl) (r_fn en114 hf rfl) (spec_l01Mod_ok  hx92) fun v w' hΦ => ?_
            obtain ⟨hb, hΦ⟩ := hΦ
            obtain rfl := hΦ
            have hE := Ext.new (ρ := ρ) 34 hb
            exact ⟨_, hw.new 34 hb, hE, rfl⟩
          · intro ρ w a hw hG hf hd K hK
            obtain ⟨o2, hn66, o29⟩ := hG
            obtain ⟨_, hf, rfl⟩ := got (hd 16 (by kernel_rfl)) hf
            refine dx_ hK hw (wn rfl) (r_lit (d := fI64) (xs := ([x91] : List Int)) (vs := [vI x91]) 35 Try.underlying36 el2 (Nat.le_of_ble_eq_true rfl) (Nat.le_of_ble_eq_true rfl) hw hf rfl rfl rfl) fun v35 w' hΦ => ?_
            obtain ⟨ρ, hw, hE, o35⟩ := hΦ
            exact ⟨_, hw, hE, ex_ <| an_ rfl <| o35⟩
        intro ρ w a hw hG hf hd
        obtain ⟨o2, hn66, o29⟩ := hG
        obtain ⟨_, hf, rfl⟩ := got (hd 0 (by decide)) hf
        obtain ⟨_, hf, ⟨v35, rfl, o35⟩⟩ := got (hd 17 (by decide)) hf
        obtain ⟨hc93, hF⟩ := of_guard hF
        refine sx_ hf (r_append Try.underlying36 el2 hw (by decide) o29 o35.ro hc93 hf rfl rfl) fun a va94 w hf hΦ => ?_
        obtain ⟨ρ, hw, hA, o29⟩ := hΦ
        replace o2 := o2.adv hA (by decide) (fun _ => by unfold lab; omega)
        replace o35 := o35.adv hA (by decide)
        refine s_ hf (r_assign hf rfl) fun a hf => ?_
        refine c_nil <| n_block <| n_then <| c_region ?_
        refine s_ hf (r_move hf rfl) fun a hf => ?_
        refine s_ hf (r_add hf rfl rfl) fun a hf => ?_
        refine s_ hf (r_assign hf rfl) fun a hf => ?_
        refine c_nil ?_
        obtain rfl := Option.some.inj hF
        exact Rnd.goes ⟨_, _, hw, hf.sub ⟨rfl, rfl, rfl, rfl, rfl, rfl, rfl, rfl, rfl, trivial⟩, o2, hn66, o29⟩
      rintro ⟨s82, s83⟩ a w hs ⟨ρ, vv84, hw, hf, o2, hn66, o29⟩
      subst hs
      have hF := hG81
      dsimp only at hF
      refine x_block <| n_then <| c_region ?_
      refine s_ hf (r_move hf rfl) fun a hf => ?_
      refine s_ hf (r_move hf rfl) fun a hf => ?_
      refine s_ hf (r_move hf rfl) fun a hf => ?_
      obtain ⟨ad95, hl95⟩ := Ow.ce (d := fRef f71) o2.out 0 hc73.1 hc73.2
      have hn95 := o2.lt_gl hc73.1 hc73.2
      refine s_ hf (r_idx Try.underlying24 sz36 hf rfl hl95.at_ rfl hc73.1 hc73.2) fun a hf => ?_
      refine sk_ hf (r_gput (p := s68) hw (by decide) (by decide) (fun _ => by unfold lab; omega) o2 o29 hc73.1 hc73.2 hl95.at_ ty36 rfl hf rfl rfl) fun a w hf hΦ => ?_
      obtain ⟨f96, ρ, hw, hT, o2, hff96, hnu96⟩ := hΦ
      rw [hff96 _ hn66] at hf
      rw [hnu96] at hf
      replace hn66 : s30.length < (s70 ++ [s83]).length := by simp only [List.length_append, List.length_set]; omega
      replace hn95 : (gl 0 s69 s68) < (s70 ++ [s83]).length := by simp only [List.length_append, List.length_set]; omega
      have hn97 : s70.length < (s70 ++ [s83]).length := by simp
      refine c_nil <| n_block <| n_then <| c_region ?_
      refine s_ hf (r_move hf rfl) fun a hf => ?_
      refine s_ hf (r_add hf rfl rfl) fun a hf => ?_
      refine s_ hf (r_assign hf rfl) fun a hf => ?_
      refine c_nil ?_
      obtain rfl := Option.some.inj hF
      exact Rnd.goes ⟨_, _, hw, hf.sub ⟨rfl, rfl, rfl, rfl, rfl, rfl, trivial⟩, o2, hn66⟩
    rintro ⟨s68, s69, s70⟩ a w hs ⟨ρ, f71, hw, hf, o2⟩
    subst hs
    have hF := hG67
    dsimp only at hF
    refine x_block <| n_block <| n_then <| c_region ?_
    refine s_ hf (r_move hf rfl) fun a hf => ?_
    refine s_ hf (r_add hf rfl rfl) fun a hf => ?_
    refine s_ hf (r_assign hf rfl) fun a hf => ?_
    refine c_nil ?_
    obtain rfl := Option.some.inj hF
    exact Rnd.goes ⟨_, _, hw, hf.sub ⟨rfl, rfl, rfl, rfl, trivial⟩, o2⟩
  rintro ⟨s28, s29, s30⟩ a w hs ⟨ρ, f31, hw, hf, o2⟩
  subst hs
  have hF := hG27
  dsimp only at hF
  refine x_block <| n_then <| c_seq <| c_region ?_
  refine sx_ hf (r_lit_none (d := (Kd.slice 2 (kf fI64))) 39 Try.underlying24 el36 hw) fun a v39 w hf hΦ => ?_
  obtain ⟨ρ, hw, hE, o39⟩ := hΦ
  replace o2 := o2.ext hE
  replace o39 : Gd fI64 2 36 ρ w w0.heap.size 39 v39 (fun _ => (⟨.bool false, rfl⟩ : V1)) ([] : List Nat) ([] : List (List Int)) := Gd.empty o39 rfl (by decide) _
  refine s_ hf (r_assign hf rfl) fun a hf => ?_
  refine c_nt <| c_seq <| c_seq <| c_region ?_
  refine s_ hf (r_assign hf rfl) fun a hf => ?_
  refine c_nt ?_
  obtain ⟨ol98, ho98, hG98⟩ := of_bind hF
  clear hF
  refine c_block (c_loop (id := 14) (fun s => spec_l04Inverse_l98 a1 s29 s30 s.1 s.2.1 s.2.2) (fun (s : Int × (List Nat) × (List (List Int))) a w => match s with | (s99, s100, s101) => ∃ ρ vv102 f103, Wd w0 ρ w ∧ Fr 183 a [(6, vI (a1.length : Int)), (7, vv5), (21, vv102), (22, vI s99)] ∧ Gd fI64 2 36 ρ w w0.heap.size 2 vv5 f31 s29 s30 ∧ Gd fI64 2 36 ρ w w0.heap.size 39 vv102 f103 s100 s101) (fun (s : Int × (List Nat) × (List (List Int))) a w => match s with | (s99, s100, s101) => ∃ ρ vv102 f103, Wd w0 ρ w ∧ Fr 183 a [(21, vv102)] ∧ Gd fI64 2 36 ρ w w0.heap.size 39 vv102 f103 s100 s101) ho98 ⟨_, _, _, hw, hf.sub ⟨rfl, rfl, rfl, rfl, trivial⟩, o2, o39⟩ ?_ ?_)
  · rintro ⟨s99, s100, s101⟩ lr a w ⟨ρ, vv102, f103, hw, hf, o2, o39⟩ hF
    replace hF : spec_l04Inverse_l98 a1 s29 s30 s99 s100 s101 = some lr := hF
    unfold spec_l04Inverse_l98 at hF
    refine c_seq <| c_seq <| c_region ?_
    refine s_ hf (r_move hf rfl) fun a hf => ?_
    refine s_ hf (r_move hf rfl) fun a hf => ?_
    refine s_ hf (r_lss hf rfl rfl) fun a hf => ?_
    refine c_nt ?_
    rcases of_ite hF with ⟨hb104, hF⟩ | ⟨hb104, hF⟩
    rotate_left
    · refine c_iff hf rfl hb104 <| c_exit <| x_then ?_
      obtain rfl := Option.some.inj hF
      exact Rnd.stops ⟨_, _, _, hw, hf.sub ⟨rfl, trivial⟩, o39⟩
    refine c_ift hf rfl hb104 <| c_skip <| n_then <| c_seq <| c_block <| c_region ?_
    refine s_ hf (r_move hf rfl) fun a hf => ?_
    refine s_ hf (r_move hf rfl) fun a hf => ?_
    refine s_ hf (r_move hf rfl) fun a hf => ?_
    obtain ⟨hc105, hF⟩ := of_guard hF
    obtain ⟨ad106, hl106⟩ := Ow.ce (d := fRef f31) o2.out 0 hc105.1 hc105.2
    have hn106 := o2.lt_gl hc105.1 hc105.2
    refine s_ hf (r_idx Try.underlying24 sz36 hf rfl hl106.at_ rfl hc105.1 hc105.2) fun a hf => ?_
    refine s_ hf (r_load_cell ty36 hf rfl hl106.co.cl) fun a hf => ?_
    refine s_ hf (r_move hf rfl) fun a hf => ?_
    obtain ⟨hc107, hF⟩ := of_guard hF
    have o42 : Ro (kf fI64) w (cutV ((f31 (gl 0 s29 s99)).1) (a1.length : Int).toNat ((s30.getD (gl 0 s29 s99) []).length : Int).toNat 1) (((s30.getD (gl 0 s29 s99) []).take ((s30.getD (gl 0 s29 s99) []).length : Int).toNat).drop (a1.length : Int).toNat) := ro_cutV ((o2.rowAt hn106).ro) hc107.1 hc107.2 (Int.le_refl _)
    refine s_ hf (r_cut_v (lo := (a1.length : Int)) (hi := ((s30.getD (gl 0 s29 s99) []).length : Int)) Try.underlying36 sz2 rfl ((o2.rowAt hn106).ro) hf rfl (.inr ⟨_, rfl, rfl⟩) (.inl ⟨rfl, rfl⟩) hc107.1 hc107.2 (Int.le_refl _)) fun a hf => ?_
    obtain ⟨x108, hx109, hF⟩ := of_bind hF
    refine st_fn 43 hw hf rfl rfl (by decide) (r_fn en105 hf rfl) (spec_l01Own_ok o42 hx109) fun a v w ρ hf hw hE hN hΦ => ?_
    obtain ⟨u110, rfl, hr111⟩ := hΦ
    replace o2 := o2.ext hE
    replace o39 := o39.ext hE
    replace hl106 := hl106.ext hE
    replace o42 := o42.ext hE
    have o43 := hN hr111
    refine sx_ hf (r_glit 44 Try.underlying24 el36 hw hf rfl o43) fun a v44 w hf hΦ => ?_
    obtain ⟨ρ, hw, hE, o44⟩ := hΦ
    replace o2 := o2.ext hE
    replace o39 := o39.ext hE
    replace hl106 := hl106.ext hE
    replace o42 := o42.ext hE
    replace o43 := o43.ext hE
    obtain ⟨hc112, hF⟩ := of_guard hF
    refine sx_ hf (r_gapp' Try.underlying24 el36 hw (by decide) (by decide) (fun _ => by unfold lab; omega) o39 o44 o43 hc112 hf rfl rfl) fun a va113 w hf hΦ => ?_
    obtain ⟨f113, ρ, hw, hT, o39, hff113, hnu113⟩ := hΦ
    replace o2 := o2.tr (hT 2 (by decide) (by decide)) (fun _ => hT _ (by unfold lab; omega) (by unfold lab; omega))
    rw [hnu113] at hf
    have hn114 : s101.length < (s101 ++ [x108]).length := by simp
    refine s_ hf (r_assign hf rfl) fun a hf => ?_
    refine c_nil <| n_block <| n_then <| c_region ?_
    refine s_ hf (r_move hf rfl) fun a hf => ?_
    refine s_ hf (r_add hf rfl rfl) fun a hf => ?_
    refine s_ hf (r_assign hf rfl) fun a hf => ?_
    refine c_nil ?_
    obtain rfl := Option.some.inj hF
    exact Rnd.goes ⟨_, _, _, hw, hf.sub ⟨rfl, rfl, rfl, rfl, trivial⟩, o2, o39⟩
  rintro ⟨s99, s100, s101⟩ a w hs ⟨ρ, vv102, f103, hw, hf, o39⟩
  subst hs
  have hF := hG98
  dsimp only at hF
  refine x_block <| n_then <| c_seq <| c_region ?_
  refine s_ hf (r_move hf rfl) fun a hf => ?_
  refine s_ hf (r_assign hf rfl) fun a hf => ?_
  refine s_ hf (r_assign hf rfl) fun a hf => ?_
  refine c_nt <| c_retc ?_
  obtain rfl := Option.some.inj hF
  refine c_ret hf (res_tt Try.results57 hf rfl rfl) ?_
  exact ⟨_, rfl, hw.below, ⟨_, rfl, o39.fresh⟩⟩
/-! f54 -/
noncomputable def impl_isInvertible (a0 : Int) (a1 : List (List Int)) : Option Bool :=
  (impl_rank a0 a1).bind fun x1 => some (decide (x1 = (a1.length : Int)))
theorem impl_isInvertible_ok {w0 : World} {a0 : Int} {a1 : List (List Int)} {va1 : Value} (h1 : Ro (Kd.slice 2 (kf fI64)) w0 va1 a1) {r : Bool} (hF : impl_isInvertible a0 a1 = some r) :
    Calls Try.prog 54 [vI a0, va1].toArray w0 fun e w => ∃ v, e = .returned v ∧ Below w0.heap.size w0 w ∧ .bool r = v := by
  refine calls_of (k := 11) Try.func54 rfl rfl (Nat.le_of_ble_eq_true rfl) fun a hf => ?_
  replace hf : Fr 11 a [(0, vI a0), (1, va1)] := hf
  refine c_start fun w ρ hw => ?_
  unfold impl_isInvertible at hF
  refine c_seq <| c_region ?_
  refine s_ hf (r_assign hf rfl) fun a hf => ?_
  refine c_nt <| c_seq <| c_region ?_
  refine s_ hf (r_move hf rfl) fun a hf => ?_
  refine s_ hf (r_move hf rfl) fun a hf => ?_
  obtain ⟨x1, hx2, hF⟩ := of_bind hF
  refine st_fn 1 hw hf rfl rfl (by decide) (r_fn en106 hf rfl) (impl_rank_ok (h1.now hw) hx2) fun a v w ρ hf hw hE hN hΦ => ?_
  obtain rfl := hΦ
  refine s_ hf (r_move hf rfl) fun a hf => ?_
  refine s_ hf (r_len Try.underlying24 (h1.now hw) hf rfl) fun a hf => ?_
  refine s_ hf (r_eql hf rfl rfl) fun a hf => ?_
  refine s_ hf (r_assign hf rfl) fun a hf => ?_
  refine c_nt <| c_retc ?_
  obtain rfl := Option.some.inj hF
  refine c_ret hf (res_tmp Try.results54 hf rfl) ?_
  exact ⟨_, rfl, hw.below, rfl⟩
/-! f68 -/
noncomputable def impl_multiply_l15 (a0 : Int) (a1 : List (List Int)) (a2 : List (List Int)) (s2 : Int) (s12 : Int) (s16 : Int) (s17 : List Int) : Option (LR (Int × (List Int)) (List (List Int))) :=
  if (decide (s16 < ((gl [] a1 s2).length : Int))) = true then (if 0 ≤ s16 ∧ s16 < ((gl [] a1 s2).length : Int) then (if 0 ≤ s12 ∧ s12 < (s17.length : Int) then (if 0 ≤ s16 ∧ s16 < (a2.length : Int) then (if 0 ≤ s12 ∧ s12 < ((gl [] a2 s16).length : Int) then (if a0 ≠ 0 then (some (.next (w64 (s16 + 1), (s17.set s12.toNat ((w64 ((gl 0 s17 s12) + (w64 ((gl 0 (gl [] a1 s2) s16) * (gl 0 (gl [] a2 s16) s12))))).tmod a0))))) else none) else none) else none) else none) else none) else (some (.stop (s16, s17)))
noncomputable def impl_multiply_l11 (a0 : Int) (a1 : List (List Int)) (a2 : List (List Int)) (s2 : Int) (s12 : Int) (s13 : List Int) : Option (LR (Int × (List Int)) (List (List Int))) :=
  if (decide (s12 < ((List.replicate ((gl [] a2 (0 : Int)).length : Int).toNat (0 : Int)).length : Int))) = true then ((iter (fun s => impl_multiply_l15 a0 a1 a2 s2 s12 s.1 s.2) (0, s13)).bind fun o => match o with | .stop (s16, s17) => (some (.next (w64 (s12 + 1), s17))) | .ret r => some (.ret r) | .next _ => none) else (some (.stop (s12, s13)))
noncomputable def impl_multiply_l1 (a0 : Int) (a1 : List (List Int)) (a2 : List (List Int)) (s2 : Int) (s3 : List (List Int)) : Option (LR (Int × (List (List Int))) (List (List Int))) :=
  if (decide (s2 < (a1.length : Int))) = true then (if 0 ≤ s2 ∧ s2 < (a1.length : Int) then (if 0 ≤ (0 : Int) ∧ (0 : Int) < (a2.length : Int) then (if 0 ≤ ((gl [] a2 (0 : Int)).length : Int) ∧ ((gl [] a2 (0 : Int)).length : Int) * 8 ≤ 281474976710656 then ((iter (fun s => impl_multiply_l11 a0 a1 a2 s2 s.1 s.2) (0, (List.replicate ((gl [] a2 (0 : Int)).length : Int).toNat (0 : Int)))).bind fun o => match o with | .stop (s12, s13) => (if (s3.length + ([s13]).length) * 24 ≤ 140737488355328 then (some (.next (w64 (s2 + 1), (s3 ++ [s13])))) else none) | .ret r => some (.ret r) | .next _ => none) else none) else none) else none) else (some (.stop (s2, s3)))
noncomputable def impl_multiply (a0 : Int) (a1 : List (List Int)) (a2 : List (List Int)) : Option (List (List Int)) :=
  (iter (fun s => impl_multiply_l1 a0 a1 a2 s.1 s.2) (0, ([] : List (List Int)))).bind fun o => match o with | .stop (s2, s3) => (some (s3)) | .ret r => some r | .next _ => none
theorem impl_multiply_ok {w0 : World} {a0 : Int} {a1 : List (List Int)} {a2 : List (List Int)} {va1 : Value} {va2 : Value} (h1 : Ro (Kd.slice 2 (kf fI64)) w0 va1 a1) (h2 : Ro (Kd.slice 2 (kf fI64)) w0 va2 a2) {r : List (List Int)} (hF : impl_multiply a0 a1 a2 = some r) :
    Calls Try.prog 68 [vI a0, va1, va2].toArray w0 fun e w => ∃ v, e = .returned v ∧ Below w0.heap.size w0 w ∧ ∃ u0, u0 = v ∧ Fresh (Kd.slice 2 (kf fI64)) 36 w0 w u0 r := by
  refine calls_of (k := 65) Try.func68 rfl rfl (Nat.le_of_ble_eq_true rfl) fun a hf => ?_
  replace hf : Fr 65 a [(0, vI a0), (1, va1), (2, va2)] := hf
  refine c_start fun w ρ hw => ?_
  unfold impl_multiply at hF
  refine c_seq <| c_region ?_
  have o1 : Ow (Kd.slice 2 (kf fI64)) 36 ρ w w0.heap.size 1 (.slice none 0 0) [] := Ow.nil _ _ _ _ _ _
  refine s_ hf (r_assign hf rfl) fun a hf => ?_
  refine c_nt <| c_seq <| c_region ?_
  refine sx_ hf (r_lit_none (d := (Kd.slice 2 (kf fI64))) 2 Try.underlying24 el36 hw) fun a v2 w hf hΦ => ?_
  obtain ⟨ρ, hw, hE, o2⟩ := hΦ
  replace o1 := o1.ext hE
  refine s_ hf (r_assign hf rfl) fun a hf => ?_
  refine c_nt <| c_seq <| c_seq <| c_region ?_
  refine s_ hf (r_move hf rfl) fun a hf => ?_
  refine s_ hf (r_len Try.underlying24 (h1.now hw) hf rfl) fun a hf => ?_
  refine s_ hf (r_move hf rfl) fun a hf => ?_
  refine c_nt ?_
  obtain ⟨ol1, ho1, hG1⟩ := of_bind hF
  clear hF
  refine c_block (c_loop (id := 0) (fun s => impl_multiply_l1 a0 a1 a2 s.1 s.2) (fun (s : Int × (List (List Int))) a w => match s with | (s2, s3) => ∃ ρ vv4, Wd w0 ρ w ∧ Fr 65 a [(0, vI a0), (2, va2), (7, vv4), (15, va1), (16, vI (a1.length : Int)), (17, vI s2)] ∧ O36 ρ w w0 2 vv4 s3) (fun (s : Int × (List (List Int))) a w => match s with | (s2, s3) => ∃ ρ vv4, Wd w0 ρ w ∧ Fr 65 a [(7, vv4)] ∧ O36 ρ w w0 2 vv4 s3) ho1 ⟨_, _, hw, hf.sub ⟨rfl, rfl, rfl, rfl, rfl, rfl, trivial⟩, o2⟩ ?_ ?_)
  · rintro ⟨s2, s3⟩ lr a w ⟨ρ, vv4, hw, hf, o2⟩ hF
    replace hF : impl_multiply_l1 a0 a1 a2 s2 s3 = some lr := hF
    unfold impl_multiply_l1 at hF
    refine c_seq <| c_region ?_
    refine s_ hf (r_lss hf rfl rfl) fun a hf => ?_
    refine c_nt <| c_seq ?_
    rcases of_ite hF with ⟨hb5, hF⟩ | ⟨hb5, hF⟩
    rotate_left
    · refine c_iff hf rfl hb5 <| c_exit <| x_then ?_
      obtain rfl := Option.some.inj hF
      exact Rnd.stops ⟨_, _, hw, hf.sub ⟨rfl, trivial⟩, o2⟩
    refine c_ift hf rfl hb5 <| c_skip <| n_then <| c_seq <| c_block <| c_seq <| c_region ?_
    obtain ⟨hc6, hF⟩ := of_guard hF
    obtain ⟨ad7, c7, u7, he7, hl7, ho7⟩ := Ro.el_row h1 hc6.1 hc6.2
    refine s_ hf (r_idx Try.underlying24 sz36 hf rfl ⟨_, he7⟩ rfl hc6.1 hc6.2) fun a hf => ?_
    refine s_ hf (r_load_cell ty36 hf rfl (hl7.below hw.below)) fun a hf => ?_
    refine s_ hf (r_assign hf rfl) fun a hf => ?_
    refine c_nt <| c_seq <| c_region ?_
    refine s_ hf (r_move hf rfl) fun a hf => ?_
    obtain ⟨hc8, hF⟩ := of_guard hF
    obtain ⟨ad9, c9, u9, he9, hl9, ho9⟩ := Ro.el_row h2 hc8.1 hc8.2
    refine s_ hf (r_idx Try.underlying24 sz36 hf rfl ⟨_, he9⟩ rfl hc8.1 hc8.2) fun a hf => ?_
    refine s_ hf (r_load_cell ty36 hf rfl (hl9.below hw.below)) fun a hf => ?_
    refine s_ hf (r_len Try.underlying36 (ho9.now hw) hf rfl) fun a hf => ?_
    obtain ⟨hc10, hF⟩ := of_guard hF
    refine sx_ hf (r_make (d := fI64) (z0 := 0) 3 Try.underlying36 el2 rfl hw hf rfl hc10.1 (mk_le hc10.1 hc10.2)) fun a v3 w hf hΦ => ?_
    obtain ⟨ρ, hw, hE, o3⟩ := hΦ
    replace o2 := o2.ext hE
    refine s_ hf (r_assign hf rfl) fun a hf => ?_
    refine c_nt <| c_seq <| c_seq <| c_region ?_
    refine s_ hf (r_move hf rfl) fun a hf => ?_
    refine s_ hf (r_len Try.underlying36 o3.ro hf rfl) fun a hf => ?_
    refine s_ hf (r_move hf rfl) fun a hf => ?_
    refine c_nt ?_
    obtain ⟨ol11, ho11, hG11⟩ := of_bind hF
    clear hF
    refine c_block (c_loop (id := 2) (fun s => impl_multiply_l11 a0 a1 a2 s2 s.1 s.2) (fun (s : Int × (List Int)) a w => match s with | (s12, s13) => ∃ ρ, Wd w0 ρ w ∧ Fr 65 a [(0, vI a0), (2, va2), (7, vv4), (9, u7), (10, v3), (15, va1), (16, vI (a1.length : Int)), (17, vI s2), (27, vI ((List.replicate ((gl [] a2 (0 : Int)).length : Int).toNat (0 : Int)).length : Int)), (28, vI s12)] ∧ O36 ρ w w0 2 vv4 s3 ∧ O2 ρ w w0 3 v3 s13) (fun (s : Int × (List Int)) a w => match s with | (s12, s13) => ∃ ρ, Wd w0 ρ w ∧ Fr 65 a [(0, vI a0), (2, va2), (7, vv4), (10, v3), (15, va1), (16, vI (a1.length : Int)), (17, vI s2)] ∧ O36 ρ w w0 2 vv4 s3 ∧ O2 ρ w w0 3 v3 s13) ho11 ⟨_, hw, hf.sub ⟨rfl, rfl, rfl, rfl, rfl, rfl, rfl, rfl, rfl, rfl, trivial⟩, o2, o3⟩ ?_ ?_)
    · rintro ⟨s12, s13⟩ lr a w ⟨ρ, hw, hf, o2, o3⟩ hF
      replace hF : impl_multiply_l11 a0 a1 a2 s2 s12 s13 = some lr := hF
      unfold impl_multiply_l11 at hF
      refine c_seq <| c_region ?_
      refine s_ hf (r_lss hf rfl rfl) fun a hf => ?_
      refine c_nt <| c_seq ?_
      rcases of_ite hF with ⟨hb14, hF⟩ | ⟨hb14, hF⟩
      rotate_left
      · refine c_iff hf rfl hb14 <| c_exit <| x_then ?_
        obtain rfl := Option.some.inj hF
        exact Rnd.stops ⟨_, hw, hf.sub ⟨rfl, rfl, rfl, rfl, rfl, rfl, rfl, trivial⟩, o2, o3⟩
      refine c_ift hf rfl hb14 <| c_skip <| n_then <| c_seq <| c_block <| c_seq <| c_region ?_
      refine s_ hf (r_move hf rfl) fun a hf => ?_
      refine s_ hf (r_assign hf rfl) fun a hf => ?_
      refine c_nt <| c_seq <| c_region ?_
      refine s_ hf (r_move hf rfl) fun a hf => ?_
      refine s_ hf (r_len Try.underlying36 (ho7.now hw) hf rfl) fun a hf => ?_
      refine s_ hf (r_move hf rfl) fun a hf => ?_
      refine c_nt ?_
      obtain ⟨ol15, ho15, hG15⟩ := of_bind hF
      clear hF
      refine c_block (c_loop (id := 4) (fun s => impl_multiply_l15 a0 a1 a2 s2 s12 s.1 s.2) (fun (s : Int × (List Int)) a w => match s with | (s16, s17) => ∃ ρ, Wd w0 ρ w ∧ Fr 65 a [(0, vI a0), (2, va2), (7, vv4), (9, u7), (10, v3), (11, vI s12), (15, va1), (16, vI (a1.length : Int)), (17, vI s2), (27, vI ((List.replicate ((gl [] a2 (0 : Int)).length : Int).toNat (0 : Int)).length : Int)), (28, vI s12), (31, u7), (32, vI ((gl [] a1 s2).length : Int)), (33, vI s16)] ∧ O36 ρ w w0 2 vv4 s3 ∧ O2 ρ w w0 3 v3 s17) (fun (s : Int × (List Int)) a w => match s with | (s16, s17) => ∃ ρ, Wd w0 ρ w ∧ Fr 65 a [(0, vI a0), (2, va2), (7, vv4), (9, u7), (10, v3), (15, va1), (16, vI (a1.length : Int)), (17, vI s2), (27, vI ((List.replicate ((gl [] a2 (0 : Int)).length : Int).toNat (0 : Int)).length : Int)), (28, vI s12)] ∧ O36 ρ w w0 2 vv4 s3 ∧ O2 ρ w w0 3 v3 s17) ho15 ⟨_, hw, hf.sub ⟨rfl, rfl, rfl, rfl, rfl, rfl, rfl, rfl, rfl, rfl, rfl, rfl, rfl, rfl, trivial⟩, o2, o3⟩ ?_ ?_)
      · rintro ⟨s16, s17⟩ lr a w ⟨ρ, hw, hf, o2, o3⟩ hF
        replace hF : impl_multiply_l15 a0 a1 a2 s2 s12 s16 s17 = some lr := hF
        unfold impl_multiply_l15 at hF
        refine c_seq <| c_region ?_
        refine s_ hf (r_lss hf rfl rfl) fun a hf => ?_
        refine c_nt <| c_seq ?_
        rcases of_ite hF with ⟨hb18, hF⟩ | ⟨hb18, hF⟩
        rotate_left
        · refine c_iff hf rfl hb18 <| c_exit <| x_then ?_
          obtain rfl := Option.some.inj hF
          exact Rnd.stops ⟨_, hw, hf.sub ⟨rfl, rfl, rfl, rfl, rfl, rfl, rfl, rfl, rfl, rfl, trivial⟩, o2, o3⟩
        refine c_ift hf rfl hb18 <| c_skip <| n_then <| c_seq <| c_block <| c_seq <| c_region ?_
        refine s_ hf (r_move hf rfl) fun a hf => ?_
        obtain ⟨hc19, hF⟩ := of_guard hF
        obtain ⟨ad20, c20, he20, hl20⟩ := Ro.el fI64 ho7 0 hc19.1 hc19.2
        refine s_ hf (r_idx Try.underlying36 sz2 hf rfl ⟨_, he20⟩ rfl hc19.1 hc19.2) fun a hf => ?_
        refine s_ hf (r_load_cell ty2 hf rfl (hl20.below hw.below)) fun a hf => ?_
        refine s_ hf (r_assign hf rfl) fun a hf => ?_
        refine s_ hf (r_assign hf rfl) fun a hf => ?_
        refine c_nt ?_
        obtain ⟨hc21, hF⟩ := of_guard hF
        obtain ⟨hc23, hF⟩ := of_guard hF
        obtain ⟨ad24, c24, u24, he24, hl24, ho24⟩ := Ro.el_row h2 hc23.1 hc23.2
        obtain ⟨hc25, hF⟩ := of_guard hF
        obtain ⟨ad26, c26, he26, hl26⟩ := Ro.el fI64 ho24 0 hc25.1 hc25.2
        obtain ⟨hc27, hF⟩ := of_guard hF
        replace hf : Fr 65 a [(0, vI a0), (2, va2), (7, vv4), (9, u7), (10, v3), (11, vI s12), (12, vI s16), (13, vI (gl 0 (gl [] a1 s2) s16)), (15, va1), (16, vI (a1.length : Int)), (17, vI s2), (27, vI ((List.replicate ((gl [] a2 (0 : Int)).length : Int).toNat (0 : Int)).length : Int)), (28, vI s12), (31, u7), (32, vI ((gl [] a1 s2).length : Int)), (33, vI s16)] := hf.sub ⟨rfl, rfl, rfl, rfl, rfl, rfl, rfl, rfl, rfl, rfl, rfl, rfl, rfl, rfl, rfl, rfl, trivial⟩
        refine c_drawL (h := 18) mixed (by kernel_rfl) (by kernel_rfl) (fun ρ w => O36 ρ w w0 2 vv4 s3 ∧ O2 ρ w w0 3 v3 s17) ?_ [fun ρ w v => v3 = v, fun ρ w v => vI s12 = v, fun ρ w v => v3 = v, fun ρ w v => vI s12 = v, fun ρ w v => ∃ ad22, .pointer (some (ad22.add (s12.toNat * 1))) = v ∧ Ce ρ w 3 v3 s17.length ad22 (s12.toNat * 1) (fI64.enc (gl 0 s17 s12)), fun ρ w v => vI (gl 0 s17 s12) = v, fun ρ w v => vI (gl 0 (gl [] a1 s2) s16) = v, fun ρ w v => va2 = v, fun ρ w v => vI s16 = v, fun ρ w v => .pointer (some (ad24.add (s16.toNat * 1))) = v, fun ρ w v => u24 = v, fun ρ w v => vI s12 = v, fun ρ w v => .pointer (some (ad26.add (s12.toNat * 1))) = v, fun ρ w v => vI (gl 0 (gl [] a2 s16) s12) = v, fun ρ w v => vI (w64 ((gl 0 (gl [] a1 s2) s16) * (gl 0 (gl [] a2 s16) s12))) = v, fun ρ w v => vI (w64 ((gl 0 s17 s12) + (w64 ((gl 0 (gl [] a1 s2) s16) * (gl 0 (gl [] a2 s16) s12))))) = v, fun ρ w v => vI a0 = v, fun ρ w v => vI ((w64 ((gl 0 s17 s12) + (w64 ((gl 0 (gl [] a1 s2) s16) * (gl 0 (gl [] a2 s16) s12))))).tmod a0) = v] ?_ hw ⟨o2, o3⟩ hf ?_ ?_
        · intro ρ w ρ' w' hE hG
          obtain ⟨o2, o3⟩ := hG
          exact ⟨o2.ext hE, o3.ext hE⟩
        · exact LastsL.cons (fun _ _ _ _ _ _ h => h) <| LastsL.cons (fun _ _ _ _ _ _ h => h) <| LastsL.cons (fun _ _ _ _ _ _ h => h) <| LastsL.cons (fun _ _ _ _ _ _ h => h) <| LastsL.cons (fun _ _ _ _ _ hE h => by obtain ⟨ad22, h, hl22⟩ := h; exact ⟨_, h, hl22.ext hE⟩) <| LastsL.cons (fun _ _ _ _ _ _ h => h) <| LastsL.cons (fun _ _ _ _ _ _ h => h) <| LastsL.cons (fun _ _ _ _ _ _ h => h) <| LastsL.cons (fun _ _ _ _ _ _ h => h) <| LastsL.cons (fun _ _ _ _ _ _ h => h) <| LastsL.cons (fun _ _ _ _ _ _ h => h) <| LastsL.cons (fun _ _ _ _ _ _ h => h) <| LastsL.cons (fun _ _ _ _ _ _ h => h) <| LastsL.cons (fun _ _ _ _ _ _ h => h) <| LastsL.cons (fun _ _ _ _ _ _ h => h) <| LastsL.cons (fun _ _ _ _ _ _ h => h) <| LastsL.cons (fun _ _ _ _ _ _ h => h) <| LastsL.cons (fun _ _ _ _ _ _ h => h) <| LastsL.nil
        · refine StepsB.cons ?_ <| StepsB.cons ?_ <| StepsB.cons ?_ <| StepsB.cons ?_ <| StepsB.cons ?_ <| StepsB.cons ?_ <| StepsB.cons ?_ <| StepsB.cons ?_ <| StepsB.cons ?_ <| StepsB.cons ?_ <| StepsB.cons ?_ <| StepsB.cons ?_ <| StepsB.cons ?_ <| StepsB.cons ?_ <| StepsB.cons ?_ <| StepsB.cons ?_ <| StepsB.cons ?_ <| StepsB.cons ?_ <| StepsB.nil
          · intro ρ w a hw hG hf hd K hK
            obtain ⟨o2, o3⟩ := hG
            exact dv_ hK hw (wn rfl) (r_move hf rfl) rfl
          · intro ρ w a hw hG hf hd K hK
            obtain ⟨o2, o3⟩ := hG
            exact dv_ hK hw (wn rfl) (r_move hf rfl) rfl
          · intro ρ w a hw hG hf hd K hK
            obtain ⟨o2, o3⟩ := hG
            exact dv_ hK hw (wn rfl) (r_move hf rfl) rfl
          · intro ρ w a hw hG hf hd K hK
            obtain ⟨o2, o3⟩ := hG
            exact dv_ hK hw (wn rfl) (r_move hf rfl) rfl
          · intro ρ w a hw hG hf hd K hK
            obtain ⟨o2, o3⟩ := hG
            obtain ⟨_, hf, rfl⟩ := got (hd 2 (by kernel_rfl)) hf
            obtain ⟨_, hf, rfl⟩ := got (hd 3 (by kernel_rfl)) hf
            obtain ⟨ad22, hl22⟩ := Ow.ce (d := fI64) o3 0 hc21.1 hc21.2
            exact dv_ hK hw (wn rfl) (r_idx Try.underlying36 sz2 hf rfl hl22.at_ rfl hc21.1 hc21.2) (ex_ <| an_ rfl <| hl22)
          · intro ρ w a hw hG hf hd K hK
            obtain ⟨o2, o3⟩ := hG
            obtain ⟨_, hf, ⟨ad22, rfl, hl22⟩⟩ := got (hd 4 (by kernel_rfl)) hf
            exact dv_ hK hw (wn rfl) (r_load_cell ty2 hf rfl hl22.co.cl) rfl
          · intro ρ w a hw hG hf hd K hK
            obtain ⟨o2, o3⟩ := hG
            exact dv_ hK hw (wn rfl) (r_move hf rfl) rfl
          · intro ρ w a hw hG hf hd K hK
            obtain ⟨o2, o3⟩ := hG
            exact dv_ hK hw (wn rfl) (r_move hf rfl) rfl
          · intro ρ w a hw hG hf hd K hK
            obtain ⟨o2, o3⟩ := hG
            exact dv_ hK hw (wn rfl) (r_move hf rfl) rfl
          · intro ρ w a hw hG hf hd K hK
            obtain ⟨o2, o3⟩ := hG
            obtain ⟨_, hf, rfl⟩ := got (hd 7 (by kernel_rfl)) hf
            obtain ⟨_, hf, rfl⟩ := got (hd 8 (by kernel_rfl)) hf
            exact dv_ hK hw (wn rfl) (r_idx Try.underlying24 sz36 hf rfl ⟨_, he24⟩ rfl hc23.1 hc23.2) rfl
          · intro ρ w a hw hG hf hd K hK
            obtain ⟨o2, o3⟩ := hG
            obtain ⟨_, hf, rfl⟩ := got (hd 9 (by kernel_rfl)) hf
            exact dv_ hK hw (wn rfl) (r_load_cell ty36 hf rfl (hl24.below hw.below)) rfl
          · intro ρ w a hw hG hf hd K hK
            obtain ⟨o2, o3⟩ := hG
            exact dv_ hK hw (wn rfl) (r_move hf rfl) rfl
          · intro ρ w a hw hG hf hd K hK
            obtain ⟨o2, o3⟩ := hG
            obtain ⟨_, hf, rfl⟩ := got (hd 10 (by kernel_rfl)) hf
            obtain ⟨_, hf, rfl⟩ := got (hd 11 (by kernel_rfl)) hf
            exact dv_ hK hw (wn rfl) (r_idx Try.underlying36 sz2 hf rfl ⟨_, he26⟩ rfl hc25.1 hc25.2) rfl
          · intro ρ w a hw hG hf hd K hK
            obtain ⟨o2, o3⟩ := hG
            obtain ⟨_, hf, rfl⟩ := got (hd 12 (by kernel_rfl)) hf
            exact dv_ hK hw (wn rfl) (r_load_cell ty2 hf rfl (hl26.below hw.below)) rfl
          · intro ρ w a hw hG hf hd K hK
            obtain ⟨o2, o3⟩ := hG
            obtain ⟨_, hf, rfl⟩ := got (hd 6 (by kernel_rfl)) hf
            obtain ⟨_, hf, rfl⟩ := got (hd 13 (by kernel_rfl)) hf
            exact dv_ hK hw (wn rfl) (r_mul hf rfl rfl) rfl
          · intro ρ w a hw hG hf hd K hK
            obtain ⟨o2, o3⟩ := hG
            obtain ⟨_, hf, rfl⟩ := got (hd 5 (by kernel_rfl)) hf
            obtain ⟨_, hf, rfl⟩ := got (hd 14 (by kernel_rfl)) hf
            exact dv_ hK hw (wn rfl) (r_add hf rfl rfl) rfl
          · intro ρ w a hw hG hf hd K hK
            obtain ⟨o2, o3⟩ := hG
            exact dv_ hK hw (wn rfl) (r_move hf rfl) rfl
          · intro ρ w a hw hG hf hd K hK
            obtain ⟨o2, o3⟩ := hG
            obtain ⟨_, hf, rfl⟩ := got (hd 15 (by kernel_rfl)) hf
            obtain ⟨_, hf, rfl⟩ := got (hd 16 (by kernel_rfl)) hf
            exact dv_ hK hw (wn rfl) (r_rem hf rfl rfl hc27) rfl
        intro ρ w a hw hG hf hd
        obtain ⟨o2, o3⟩ := hG
        obtain ⟨_, hf, rfl⟩ := got (hd 0 (by decide)) hf
        obtain ⟨_, hf, rfl⟩ := got (hd 1 (by decide)) hf
        obtain ⟨_, hf, rfl⟩ := got (hd 17 (by decide)) hf
        obtain ⟨ad28, hl28⟩ := Ow.ce (d := fI64) o3 0 hc21.1 hc21.2
        refine s_ hf (r_idx Try.underlying36 sz2 hf rfl hl28.at_ rfl hc21.1 hc21.2) fun a hf => ?_
        refine sk_ hf (r_store_ec (b := (w64 ((gl 0 s17 s12) + (w64 ((gl 0 (gl [] a1 s2) s16) * (gl 0 (gl [] a2 s16) s12))))).tmod a0) 0 hw (by decide) o3 hc21.1 hc21.2 (Lens.id _) hl28.at_ ty2 (by first | rfl | exact Nat.add_assoc _ _ _ | (simp only [Nat.add_assoc]; rfl)) hf rfl rfl rfl) fun a w hf hΦ => ?_
        obtain ⟨hw, hA, o3⟩ := hΦ
        replace o2 := o2.adv hA (by decide)
        refine c_nil <| n_block <| n_then <| c_region ?_
        refine s_ hf (r_add hf rfl rfl) fun a hf => ?_
        refine s_ hf (r_move hf rfl) fun a hf => ?_
        refine c_nil ?_
        obtain rfl := Option.some.inj hF
        exact Rnd.goes ⟨_, hw, hf.sub ⟨rfl, rfl, rfl, rfl, rfl, rfl, rfl, rfl, rfl, rfl, rfl, rfl, rfl, rfl, trivial⟩, o2, o3⟩
      rintro ⟨s16, s17⟩ a w hs ⟨ρ, hw, hf, o2, o3⟩
      subst hs
      have hF := hG15
      dsimp only at hF
      refine x_block <| n_block <| n_then <| c_region ?_
      refine s_ hf (r_add hf rfl rfl) fun a hf => ?_
      refine s_ hf (r_move hf rfl) fun a hf => ?_
      refine c_nil ?_
      obtain rfl := Option.some.inj hF
      exact Rnd.goes ⟨_, hw, hf.sub ⟨rfl, rfl, rfl, rfl, rfl, rfl, rfl, rfl, rfl, rfl, trivial⟩, o2, o3⟩
    rintro ⟨s12, s13⟩ a w hs ⟨ρ, hw, hf, o2, o3⟩
    subst hs
    have hF := hG11
    dsimp only at hF
    refine x_block <| n_then <| c_region ?_
    refine s_ hf (r_move hf rfl) fun a hf => ?_
    refine s_ hf (r_move hf rfl) fun a hf => ?_
    refine sx_ hf (r_lit_row 6 Try.underlying24 el36 hw (by decide) hf rfl o3) fun a v6 w hf hΦ => ?_
    obtain ⟨ρ, hw, hT, hB, o6⟩ := hΦ
    replace o2 := o2.tr (hT 2 (by decide))
    obtain ⟨hc29, hF⟩ := of_guard hF
    refine sx_ hf (r_append_own Try.underlying24 el36 hw (by decide) (by decide) (by decide) o2 o6 hc29 hf rfl rfl) fun a va30 w hf hΦ => ?_
    obtain ⟨ρ, hw, hT, o2⟩ := hΦ
    refine s_ hf (r_assign hf rfl) fun a hf => ?_
    refine c_nil <| n_block <| n_then <| c_region ?_
    refine s_ hf (r_add hf rfl rfl) fun a hf => ?_
    refine s_ hf (r_move hf rfl) fun a hf => ?_
    refine c_nil ?_
    obtain rfl := Option.some.inj hF
    exact Rnd.goes ⟨_, _, hw, hf.sub ⟨rfl, rfl, rfl, rfl, rfl, rfl, trivial⟩, o2⟩
  rintro ⟨s2, s3⟩ a w hs ⟨ρ, vv4, hw, hf, o2⟩
  subst hs
  have hF := hG1
  dsimp only at hF
  refine x_block <| n_then <| c_seq <| c_region ?_
  refine s_ hf (r_move hf rfl) fun a hf => ?_
  refine s_ hf (r_assign hf rfl) fun a hf => ?_
  refine c_nt <| c_retc ?_
  obtain rfl := Option.some.inj hF
  refine c_ret hf (res_tmp Try.results68 hf rfl) ?_
  exact ⟨_, rfl, hw.below, ⟨_, rfl, o2.out⟩⟩
/-! f138 -/
noncomputable def spec_l04Flip_l6 (a0 : List (List Int)) (s2 : Int) (s7 : Int) (s8 : List Int) : Option (LR (Int × (List Int)) (List (List Int))) :=
  if (decide (s7 < (a0.length : Int))) = true then (if 0 ≤ s7 ∧ s7 < (a0.length : Int) then (if 0 ≤ s2 ∧ s2 < ((gl [] a0 s7).length : Int) then (if (s8.length + ([gl 0 (gl [] a0 s7) s2]).length) * 8 ≤ 140737488355328 then (some (.next (w64 (s7 + 1), (s8 ++ [gl 0 (gl [] a0 s7) s2])))) else none) else none) else none) else (some (.stop (s7, s8)))
noncomputable def spec_l04Flip_l1 (a0 : List (List Int)) (s2 : Int) (s3 : List (List Int)) : Option (LR (Int × (List (List Int))) (List (List Int))) :=
  if (decide (s2 < (a0.length : Int))) = true then ((iter (fun s => spec_l04Flip_l6 a0 s2 s.1 s.2) (0, ([] : List Int))).bind fun o => match o with | .stop (s7, s8) => (if (s3.length + ([s8]).length) * 24 ≤ 140737488355328 then (some (.next (w64 (s2 + 1), (s3 ++ [s8])))) else none) | .ret r => some (.ret r) | .next _ => none) else (some (.stop (s2, s3)))
noncomputable def spec_l04Flip (a0 : List (List Int)) : Option (List (List Int)) :=
  (iter (fun s => spec_l04Flip_l1 a0 s.1 s.2) (0, ([] : List (List Int)))).bind fun o => match o with | .stop (s2, s3) => (some (s3)) | .ret r => some r | .next _ => none
theorem spec_l04Flip_ok {w0 : World} {a0 : List (List Int)} {va0 : Value} (h0 : Ro (Kd.slice 2 (kf fI64)) w0 va0 a0) {r : List (List Int)} (hF : spec_l04Flip a0 = some r) :
    Calls Try.prog 138 [va0].toArray w0 fun e w => ∃ v, e = .returned v ∧ Below w0.heap.size w0 w ∧ ∃ u0, u0 = v ∧ Fresh (Kd.slice 2 (kf fI64)) 36 w0 w u0 r := by
  refine calls_of (k := 36) Try.func138 rfl rfl (Nat.le_of_ble_eq_true rfl) fun a hf => ?_
  replace hf : Fr 36 a [(0, va0)] := hf
  refine c_start fun w ρ hw => ?_
  unfold spec_l04Flip at hF
  refine c_seq <| c_region ?_
  have o1 : Ow (Kd.slice 2 (kf fI64)) 36 ρ w w0.heap.size 1 (.slice none 0 0) [] := Ow.nil _ _ _ _ _ _
  refine s_ hf (r_assign hf rfl) fun a hf => ?_
  refine c_nt <| c_seq <| c_region ?_
  refine sx_ hf (r_lit_none (d := (Kd.slice 2 (kf fI64))) 2 Try.underlying24 el36 hw) fun a v2 w hf hΦ => ?_
  obtain ⟨ρ, hw, hE, o2⟩ := hΦ
  replace o1 := o1.ext hE
  refine s_ hf (r_assign hf rfl) fun a hf => ?_
  refine c_nt <| c_seq <| c_seq <| c_region ?_
  refine s_ hf (r_assign hf rfl) fun a hf => ?_
  refine c_nt ?_
  obtain ⟨ol1, ho1, hG1⟩ := of_bind hF
  clear hF
  refine c_block (c_loop (id := 0) (fun s => spec_l04Flip_l1 a0 s.1 s.2) (fun (s : Int × (List (List Int))) a w => match s with | (s2, s3) => ∃ ρ vv4, Wd w0 ρ w ∧ Fr 36 a [(0, va0), (3, vv4), (4, vI s2)] ∧ O36 ρ w w0 2 vv4 s3) (fun (s : Int × (List (List Int))) a w => match s with | (s2, s3) => ∃ ρ vv4, Wd w0 ρ w ∧ Fr 36 a [(3, vv4)] ∧ O36 ρ w w0 2 vv4 s3) ho1 ⟨_, _, hw, hf.sub ⟨rfl, rfl, rfl, trivial⟩, o2⟩ ?_ ?_)
  · rintro ⟨s2, s3⟩ lr a w ⟨ρ, vv4, hw, hf, o2⟩ hF
    replace hF : spec_l04Flip_l1 a0 s2 s3 = some lr := hF
    unfold spec_l04Flip_l1 at hF
    refine c_seq <| c_seq <| c_region ?_
    refine s_ hf (r_move hf rfl) fun a hf => ?_
    refine s_ hf (r_move hf rfl) fun a hf => ?_
    refine s_ hf (r_len Try.underlying24 (h0.now hw) hf rfl) fun a hf => ?_
    refine s_ hf (r_lss hf rfl rfl) fun a hf => ?_
    refine c_nt ?_
    rcases of_ite hF with ⟨hb5, hF⟩ | ⟨hb5, hF⟩
    rotate_left
    · refine c_iff hf rfl hb5 <| c_exit <| x_then ?_
      obtain rfl := Option.some.inj hF
      exact Rnd.stops ⟨_, _, hw, hf.sub ⟨rfl, trivial⟩, o2⟩
    refine c_ift hf rfl hb5 <| c_skip <| n_then <| c_seq <| c_block <| c_seq <| c_region ?_
    refine sx_ hf (r_lit (d := fI64) (xs := ([] : List Int)) (vs := []) 3 Try.underlying36 el2 (Nat.le_of_ble_eq_true rfl) (Nat.le_of_ble_eq_true rfl) hw hf rfl rfl rfl) fun a v3 w hf hΦ => ?_
    obtain ⟨ρ, hw, hE, o3⟩ := hΦ
    replace o2 := o2.ext hE
    refine s_ hf (r_assign hf rfl) fun a hf => ?_
    refine c_nt <| c_seq <| c_seq <| c_region ?_
    refine s_ hf (r_assign hf rfl) fun a hf => ?_
    refine c_nt ?_
    obtain ⟨ol6, ho6, hG6⟩ := of_bind hF
    clear hF
    refine c_block (c_loop (id := 2) (fun s => spec_l04Flip_l6 a0 s2 s.1 s.2) (fun (s : Int × (List Int)) a w => match s with | (s7, s8) => ∃ ρ vv9, Wd w0 ρ w ∧ Fr 36 a [(0, va0), (3, vv4), (4, vI s2), (5, vv9), (6, vI s7)] ∧ O36 ρ w w0 2 vv4 s3 ∧ O2 ρ w w0 3 vv9 s8) (fun (s : Int × (List Int)) a w => match s with | (s7, s8) => ∃ ρ vv9, Wd w0 ρ w ∧ Fr 36 a [(0, va0), (3, vv4), (4, vI s2), (5, vv9)] ∧ O36 ρ w w0 2 vv4 s3 ∧ O2 ρ w w0 3 vv9 s8) ho6 ⟨_, _, hw, hf.sub ⟨rfl, rfl, rfl, rfl, rfl, trivial⟩, o2, o3⟩ ?_ ?_)
    · rintro ⟨s7, s8⟩ lr a w ⟨ρ, vv9, hw, hf, o2, o3⟩ hF
      replace hF : spec_l04Flip_l6 a0 s2 s7 s8 = some lr := hF
      unfold spec_l04Flip_l6 at hF
      refine c_seq <| c_seq <| c_region ?_
      refine s_ hf (r_move hf rfl) fun a hf => ?_
      refine s_ hf (r_move hf rfl) fun a hf => ?_
      refine s_ hf (r_len Try.underlying24 (h0.now hw) hf rfl) fun a hf => ?_
      refine s_ hf (r_lss hf rfl rfl) fun a hf => ?_
      refine c_nt ?_
      rcases of_ite hF with ⟨hb10, hF⟩ | ⟨hb10, hF⟩
      rotate_left
      · refine c_iff hf rfl hb10 <| c_exit <| x_then ?_
        obtain rfl := Option.some.inj hF
        exact Rnd.stops ⟨_, _, hw, hf.sub ⟨rfl, rfl, rfl, rfl, trivial⟩, o2, o3⟩
      refine c_ift hf rfl hb10 <| c_skip <| n_then <| c_seq <| c_block <| c_region ?_
      refine s_ hf (r_move hf rfl) fun a hf => ?_
      refine s_ hf (r_move hf rfl) fun a hf => ?_
      refine s_ hf (r_move hf rfl) fun a hf => ?_
      obtain ⟨hc11, hF⟩ := of_guard hF
      obtain ⟨ad12, c12, u12, he12, hl12, ho12⟩ := Ro.el_row h0 hc11.1 hc11.2
      refine s_ hf (r_idx Try.underlying24 sz36 hf rfl ⟨_, he12⟩ rfl hc11.1 hc11.2) fun a hf => ?_
      refine s_ hf (r_load_cell ty36 hf rfl (hl12.below hw.below)) fun a hf => ?_
      refine s_ hf (r_move hf rfl) fun a hf => ?_
      obtain ⟨hc13, hF⟩ := of_guard hF
      obtain ⟨ad14, c14, he14, hl14⟩ := Ro.el fI64 ho12 0 hc13.1 hc13.2
      refine s_ hf (r_idx Try.underlying36 sz2 hf rfl ⟨_, he14⟩ rfl hc13.1 hc13.2) fun a hf => ?_
      refine s_ hf (r_load_cell ty2 hf rfl (hl14.below hw.below)) fun a hf => ?_
      refine sx_ hf (r_lit (d := fI64) (xs := ([gl 0 (gl [] a0 s7) s2] : List Int)) (vs := [vI (gl 0 (gl [] a0 s7) s2)]) 4 Try.underlying36 el2 (Nat.le_of_ble_eq_true rfl) (Nat.le_of_ble_eq_true rfl) hw hf rfl rfl rfl) fun a v4 w hf hΦ => ?_
      obtain ⟨ρ, hw, hE, o4⟩ := hΦ
      replace o2 := o2.ext hE
      replace o3 := o3.ext hE
      obtain ⟨hc15, hF⟩ := of_guard hF
      refine sx_ hf (r_append Try.underlying36 el2 hw (by decide) o3 o4.ro hc15 hf rfl rfl) fun a va16 w hf hΦ => ?_
      obtain ⟨ρ, hw, hA, o3⟩ := hΦ
      replace o2 := o2.adv hA (by decide)
      replace o4 := o4.adv hA (by decide)
      refine s_ hf (r_assign hf rfl) fun a hf => ?_
      refine c_nil <| n_block <| n_then <| c_region ?_
      refine s_ hf (r_move hf rfl) fun a hf => ?_
      refine s_ hf (r_add hf rfl rfl) fun a hf => ?_
      refine s_ hf (r_assign hf rfl) fun a hf => ?_
      refine c_nil ?_
      obtain rfl := Option.some.inj hF
      exact Rnd.goes ⟨_, _, hw, hf.sub ⟨rfl, rfl, rfl, rfl, rfl, trivial⟩, o2, o3⟩
    rintro ⟨s7, s8⟩ a w hs ⟨ρ, vv9, hw, hf, o2, o3⟩
    subst hs
    have hF := hG6
    dsimp only at hF
    refine x_block <| n_then <| c_region ?_
    refine s_ hf (r_move hf rfl) fun a hf => ?_
    refine s_ hf (r_move hf rfl) fun a hf => ?_
    refine sx_ hf (r_lit_row 5 Try.underlying24 el36 hw (by decide) hf rfl o3) fun a v5 w hf hΦ => ?_
    obtain ⟨ρ, hw, hT, hB, o5⟩ := hΦ
    replace o2 := o2.tr (hT 2 (by decide))
    obtain ⟨hc17, hF⟩ := of_guard hF
    refine sx_ hf (r_append_own Try.underlying24 el36 hw (by decide) (by decide) (by decide) o2 o5 hc17 hf rfl rfl) fun a va18 w hf hΦ => ?_
    obtain ⟨ρ, hw, hT, o2⟩ := hΦ
    refine s_ hf (r_assign hf rfl) fun a hf => ?_
    refine c_nil <| n_block <| n_then <| c_region ?_
    refine s_ hf (r_move hf rfl) fun a hf => ?_
    refine s_ hf (r_add hf rfl rfl) fun a hf => ?_
    refine s_ hf (r_assign hf rfl) fun a hf => ?_
    refine c_nil ?_
    obtain rfl := Option.some.inj hF
    exact Rnd.goes ⟨_, _, hw, hf.sub ⟨rfl, rfl, rfl, trivial⟩, o2⟩
  rintro ⟨s2, s3⟩ a w hs ⟨ρ, vv4, hw, hf, o2⟩
  subst hs
  have hF := hG1
  dsimp only at hF
  refine x_block <| n_then <| c_seq <| c_region ?_
  refine s_ hf (r_move hf rfl) fun a hf => ?_
  refine s_ hf (r_assign hf rfl) fun a hf => ?_
  refine c_nt <| c_retc ?_
  obtain rfl := Option.some.inj hF
  refine c_ret hf (res_tmp Try.results138 hf rfl) ?_
  exact ⟨_, rfl, hw.below, ⟨_, rfl, o2.out⟩⟩
/-! f140 -/
noncomputable def impl_formOf_l5 (x1 : List Int) (s6 : Int) (s7 : Form) : Option (LR (Int × Form) Form) :=
  if (decide (s6 < (x1.length : Int))) = true then (if 0 ≤ s6 ∧ s6 < (x1.length : Int) then (if 0 ≤ s6 ∧ s6 < 9 then (some (.next (w64 (s6 + 1), vs s7 s6 (u8 (gl 0 x1 s6))))) else none) else none) else (some (.stop (s6, s7)))
noncomputable def impl_formOf (a0 : List (List Int)) : Option Form :=
  (slices_Concat_107 a0).bind fun x1 => (iter (fun s => impl_formOf_l5 x1 s.1 s.2) (0, zForm)).bind fun o => match o with | .stop (s6, s7) => (some (s7)) | .ret r => some r | .next _ => none
theorem impl_formOf_ok {w0 : World} {a0 : List (List Int)} {va0 : Value} (h0 : Ro (Kd.slice 2 (kf fI64)) w0 va0 a0) {r : Form} (hF : impl_formOf a0 = some r) :
    Calls Try.prog 140 [va0].toArray w0 fun e w => ∃ v, e = .returned v ∧ Below w0.heap.size w0 w ∧ .agg (cForm.enc r).toArray = v := by
  refine calls_of (k := 21) Try.func140 rfl rfl (Nat.le_of_ble_eq_true rfl) fun a hf => ?_
  replace hf : Fr 21 a [(0, va0)] := hf
  refine c_start fun w ρ hw => ?_
  unfold impl_formOf at hF
  refine c_seq <| c_region ?_
  refine sx_ hf (r_alloc (cs := cForm.enc zForm) 1 ze80 rfl hw) fun a v w hf hΦ => ?_
  obtain ⟨g1, ρ, rfl, hw, hE, o1⟩ := hΦ
  refine c_nt <| c_seq <| c_region ?_
  refine s_ hf (r_build_arr (vs := []) (res := (cForm.enc zForm).toArray) Try.underlying80 sz5 ze80 hf rfl rfl rfl) fun a hf => ?_
  refine sx_ hf (r_alloc (cs := cForm.enc zForm) 2 ze80 rfl hw) fun a v w hf hΦ => ?_
  obtain ⟨g2, ρ, rfl, hw, hE, o2⟩ := hΦ
  replace o1 := o1.ext hE
  refine sk_ hf (r_store_w (cs' := cForm.enc zForm) hw o2 (by decide) ty80 (cForm.len _) (cForm.len _) (cForm.one _) hf rfl rfl rfl) fun a w hf hΦ => ?_
  obtain ⟨hw, hA, o2⟩ := hΦ
  replace o1 := o1.adv hA (by decide)
  refine c_nt <| c_seq <| c_seq <| c_region ?_
  refine s_ hf (r_move hf rfl) fun a hf => ?_
  obtain ⟨x1, hx2, hF⟩ := of_bind hF
  refine st_fn 3 hw hf rfl rfl (by decide) (r_fn en107 hf rfl) (slices_Concat_107_ok (h0.now hw) hx2) fun a v w ρ hf hw hE hN hΦ => ?_
  obtain ⟨u3, rfl, hr4⟩ := hΦ
  replace o1 := o1.ext hE
  replace o2 := o2.ext hE
  have o3 := hN hr4
  refine s_ hf (r_len Try.underlying36 o3.ro hf rfl) fun a hf => ?_
  refine s_ hf (r_move hf rfl) fun a hf => ?_
  refine c_nt ?_
  obtain ⟨ol5, ho5, hG5⟩ := of_bind hF
  clear hF
  refine c_block (c_loop (id := 0) (fun s => impl_formOf_l5 x1 s.1 s.2) (fun (s : Int × Form) a w => match s with | (s6, s7) => ∃ ρ, Wd w0 ρ w ∧ Fr 21 a [(2, .pointer (some ((⟨g1, 0, none⟩ : Addr).add 0))), (3, .pointer (some ((⟨g2, 0, none⟩ : Addr).add 0))), (8, u3), (9, vI (x1.length : Int)), (10, vI s6)] ∧ Va ρ w 1 g1 80 (cForm.enc zForm) ∧ Va ρ w 2 g2 80 (cForm.enc s7) ∧ O2 ρ w w0 3 u3 x1) (fun (s : Int × Form) a w => match s with | (s6, s7) => ∃ ρ, Wd w0 ρ w ∧ Fr 21 a [(2, .pointer (some ((⟨g1, 0, none⟩ : Addr).add 0))), (3, .pointer (some ((⟨g2, 0, none⟩ : Addr).add 0)))] ∧ Va ρ w 1 g1 80 (cForm.enc zForm) ∧ Va ρ w 2 g2 80 (cForm.enc s7)) ho5 ⟨_, hw, hf.sub ⟨rfl, rfl, rfl, rfl, rfl, trivial⟩, o1, o2, o3⟩ ?_ ?_)
  · rintro ⟨s6, s7⟩ lr a w ⟨ρ, hw, hf, o1, o2, o3⟩ hF
    replace hF : impl_formOf_l5 x1 s6 s7 = some lr := hF
    unfold impl_formOf_l5 at hF
    refine c_seq <| c_region ?_
    refine s_ hf (r_lss hf rfl rfl) fun a hf => ?_
    refine c_nt <| c_seq ?_
    rcases of_ite hF with ⟨hb8, hF⟩ | ⟨hb8, hF⟩
    rotate_left
    · refine c_iff hf rfl hb8 <| c_exit <| x_then ?_
      obtain rfl := Option.some.inj hF
      exact Rnd.stops ⟨_, hw, hf.sub ⟨rfl, rfl, trivial⟩, o1, o2⟩
    refine c_ift hf rfl hb8 <| c_skip <| n_then <| c_seq <| c_block <| c_seq <| c_region ?_
    refine s_ hf (r_move hf rfl) fun a hf => ?_
    obtain ⟨hc9, hF⟩ := of_guard hF
    obtain ⟨ad10, hl10⟩ := Ow.ce (d := fI64) o3 0 hc9.1 hc9.2
    refine s_ hf (r_idx Try.underlying36 sz2 hf rfl hl10.at_ rfl hc9.1 hc9.2) fun a hf => ?_
    refine s_ hf (r_load_cell ty2 hf rfl hl10.co.cl) fun a hf => ?_
    refine s_ hf (r_assign hf rfl) fun a hf => ?_
    refine s_ hf (r_assign hf rfl) fun a hf => ?_
    refine c_nt <| c_region ?_
    refine s_ hf (r_move hf rfl) fun a hf => ?_
    refine s_ hf (r_move hf rfl) fun a hf => ?_
    refine s_ hf (r_conv_i64_u8 Try.underlying2 Try.underlying5 hf rfl) fun a hf => ?_
    obtain ⟨hc11, hF⟩ := of_guard hF
    refine s_ hf (r_indexAddr_arr Try.underlying80 sz5 hf rfl rfl hc11.1 hc11.2) fun a hf => ?_
    refine sk_ hf (r_store_l (b := u8 (gl 0 x1 s6)) hw o2 (by decide) (Lens.vec 0 fU8 s6 hc11.1 hc11.2) (by simp only [Nat.zero_add] <;> rfl) ty5 hf rfl rfl rfl) fun a w hf hΦ => ?_
    obtain ⟨hw, hA, o2⟩ := hΦ
    replace o1 := o1.adv hA (by decide)
    replace o3 := o3.adv hA (by decide)
    replace hl10 := hl10.adv hA (by decide)
    refine c_nil <| n_block <| n_then <| c_region ?_
    refine s_ hf (r_add hf rfl rfl) fun a hf => ?_
    refine s_ hf (r_move hf rfl) fun a hf => ?_
    refine c_nil ?_
    obtain rfl := Option.some.inj hF
    exact Rnd.goes ⟨_, hw, hf.sub ⟨rfl, rfl, rfl, rfl, rfl, trivial⟩, o1, o2, o3⟩
  rintro ⟨s6, s7⟩ a w hs ⟨ρ, hw, hf, o1, o2⟩
  subst hs
  have hF := hG5
  dsimp only at hF
  refine x_block <| n_then <| c_seq <| c_region ?_
  refine s_ hf (r_load_agg ty80 hf rfl o2.cl (cForm.len _)) fun a hf => ?_
  refine sk_ hf (r_store_w (cs' := cForm.enc s7) hw o1 (by decide) ty80 (cForm.len _) (cForm.len _) (cForm.one _) hf rfl rfl rfl) fun a w hf hΦ => ?_
  obtain ⟨hw, hA, o1⟩ := hΦ
  replace o2 := o2.adv hA (by decide)
  refine c_nt <| c_retc ?_
  obtain rfl := Option.some.inj hF
  refine c_ret hf (res_cell Try.results140 ty80 hf rfl o1.cl (cForm.len _)) ?_
  exact ⟨_, rfl, hw.below, rfl⟩
/-! f141 -/
noncomputable def impl_transposed_l8 (a0 : List (List Int)) (s4 : Int) (s9 : Int) (s10 : List Int) : Option (LR (Int × (List Int)) (List (List Int))) :=
  if (decide (s9 < (a0.length : Int))) = true then (if 0 ≤ s9 ∧ s9 < (a0.length : Int) then (if 0 ≤ s4 ∧ s4 < ((gl [] a0 s9).length : Int) then (if (s10.length + ([gl 0 (gl [] a0 s9) s4]).length) * 8 ≤ 140737488355328 then (some (.next (w64 (s9 + 1), (s10 ++ [gl 0 (gl [] a0 s9) s4])))) else none) else none) else none) else (some (.stop (s9, s10)))
noncomputable def impl_transposed_l3 (a0 : List (List Int)) (s4 : Int) (s5 : List (List Int)) : Option (LR (Int × (List (List Int))) (List (List Int))) :=
  if (decide (s4 < ((gl [] a0 (0 : Int)).length : Int))) = true then ((iter (fun s => impl_transposed_l8 a0 s4 s.1 s.2) (0, ([] : List Int))).bind fun o => match o with | .stop (s9, s10) => (if (s5.length + ([s10]).length) * 24 ≤ 140737488355328 then (some (.next (w64 (s4 + 1), (s5 ++ [s10])))) else none) | .ret r => some (.ret r) | .next _ => none) else (some (.stop (s4, s5)))
noncomputable def impl_transposed (a0 : List (List Int)) : Option (List (List Int)) :=
  if 0 ≤ (0 : Int) ∧ (0 : Int) < (a0.length : Int) then ((iter (fun s => impl_transposed_l3 a0 s.1 s.2) (0, ([] : List (List Int)))).bind fun o => match o with | .stop (s4, s5) => (some (s5)) | .ret r => some r | .next _ => none) else none
theorem impl_transposed_ok {w0 : World} {a0 : List (List Int)} {va0 : Value} (h0 : Ro (Kd.slice 2 (kf fI64)) w0 va0 a0) {r : List (List Int)} (hF : impl_transposed a0 = some r) :
    Calls Try.prog 141 [va0].toArray w0 fun e w => ∃ v, e = .returned v ∧ Below w0.heap.size w0 w ∧ ∃ u0, u0 = v ∧ Fresh (Kd.slice 2 (kf fI64)) 36 w0 w u0 r := by
  refine calls_of (k := 37) Try.func141 rfl rfl (Nat.le_of_ble_eq_true rfl) fun a hf => ?_
  replace hf : Fr 37 a [(0, va0)] := hf
  refine c_start fun w ρ hw => ?_
  unfold impl_transposed at hF
  refine c_seq <| c_region ?_
  have o1 : Ow (Kd.slice 2 (kf fI64)) 36 ρ w w0.heap.size 1 (.slice none 0 0) [] := Ow.nil _ _ _ _ _ _
  refine s_ hf (r_assign hf rfl) fun a hf => ?_
  refine c_nt <| c_seq <| c_region ?_
  refine sx_ hf (r_lit_none (d := (Kd.slice 2 (kf fI64))) 2 Try.underlying24 el36 hw) fun a v2 w hf hΦ => ?_
  obtain ⟨ρ, hw, hE, o2⟩ := hΦ
  replace o1 := o1.ext hE
  refine s_ hf (r_assign hf rfl) fun a hf => ?_
  refine c_nt <| c_seq <| c_seq <| c_region ?_
  refine s_ hf (r_move hf rfl) fun a hf => ?_
  obtain ⟨hc1, hF⟩ := of_guard hF
  obtain ⟨ad2, c2, u2, he2, hl2, ho2⟩ := Ro.el_row h0 hc1.1 hc1.2
  refine s_ hf (r_idx Try.underlying24 sz36 hf rfl ⟨_, he2⟩ rfl hc1.1 hc1.2) fun a hf => ?_
  refine s_ hf (r_load_cell ty36 hf rfl (hl2.below hw.below)) fun a hf => ?_
  refine s_ hf (r_len Try.underlying36 (ho2.now hw) hf rfl) fun a hf => ?_
  refine s_ hf (r_move hf rfl) fun a hf => ?_
  refine c_nt ?_
  obtain ⟨ol3, ho3, hG3⟩ := of_bind hF
  clear hF
  refine c_block (c_loop (id := 0) (fun s => impl_transposed_l3 a0 s.1 s.2) (fun (s : Int × (List (List Int))) a w => match s with | (s4, s5) => ∃ ρ vv6, Wd w0 ρ w ∧ Fr 37 a [(0, va0), (3, vv6), (12, vI ((gl [] a0 (0 : Int)).length : Int)), (13, vI s4)] ∧ O36 ρ w w0 2 vv6 s5) (fun (s : Int × (List (List Int))) a w => match s with | (s4, s5) => ∃ ρ vv6, Wd w0 ρ w ∧ Fr 37 a [(3, vv6)] ∧ O36 ρ w w0 2 vv6 s5) ho3 ⟨_, _, hw, hf.sub ⟨rfl, rfl, rfl, rfl, trivial⟩, o2⟩ ?_ ?_)
  · rintro ⟨s4, s5⟩ lr a w ⟨ρ, vv6, hw, hf, o2⟩ hF
    replace hF : impl_transposed_l3 a0 s4 s5 = some lr := hF
    unfold impl_transposed_l3 at hF
    refine c_seq <| c_region ?_
    refine s_ hf (r_lss hf rfl rfl) fun a hf => ?_
    refine c_nt <| c_seq ?_
    rcases of_ite hF with ⟨hb7, hF⟩ | ⟨hb7, hF⟩
    rotate_left
    · refine c_iff hf rfl hb7 <| c_exit <| x_then ?_
      obtain rfl := Option.some.inj hF
      exact Rnd.stops ⟨_, _, hw, hf.sub ⟨rfl, trivial⟩, o2⟩
    refine c_ift hf rfl hb7 <| c_skip <| n_then <| c_seq <| c_block <| c_seq <| c_region ?_
    refine s_ hf (r_move hf rfl) fun a hf => ?_
    refine s_ hf (r_assign hf rfl) fun a hf => ?_
    refine c_nt <| c_seq <| c_region ?_
    refine sx_ hf (r_lit (d := fI64) (xs := ([] : List Int)) (vs := []) 3 Try.underlying36 el2 (Nat.le_of_ble_eq_true rfl) (Nat.le_of_ble_eq_true rfl) hw hf rfl rfl rfl) fun a v3 w hf hΦ => ?_
    obtain ⟨ρ, hw, hE, o3⟩ := hΦ
    replace o2 := o2.ext hE
    refine s_ hf (r_assign hf rfl) fun a hf => ?_
    refine c_nt <| c_seq <| c_seq <| c_region ?_
    refine s_ hf (r_move hf rfl) fun a hf => ?_
    refine s_ hf (r_len Try.underlying24 (h0.now hw) hf rfl) fun a hf => ?_
    refine s_ hf (r_move hf rfl) fun a hf => ?_
    refine c_nt ?_
    obtain ⟨ol8, ho8, hG8⟩ := of_bind hF
    clear hF
    refine c_block (c_loop (id := 2) (fun s => impl_transposed_l8 a0 s4 s.1 s.2) (fun (s : Int × (List Int)) a w => match s with | (s9, s10) => ∃ ρ vv11, Wd w0 ρ w ∧ Fr 37 a [(0, va0), (3, vv6), (4, vI s4), (5, vv11), (12, vI ((gl [] a0 (0 : Int)).length : Int)), (13, vI s4), (17, va0), (18, vI (a0.length : Int)), (19, vI s9)] ∧ O36 ρ w w0 2 vv6 s5 ∧ O2 ρ w w0 3 vv11 s10) (fun (s : Int × (List Int)) a w => match s with | (s9, s10) => ∃ ρ vv11, Wd w0 ρ w ∧ Fr 37 a [(0, va0), (3, vv6), (5, vv11), (12, vI ((gl [] a0 (0 : Int)).length : Int)), (13, vI s4)] ∧ O36 ρ w w0 2 vv6 s5 ∧ O2 ρ w w0 3 vv11 s10) ho8 ⟨_, _, hw, hf.sub ⟨rfl, rfl, rfl, rfl, rfl, rfl, rfl, rfl, rfl, trivial⟩, o2, o3⟩ ?_ ?_)
    · rintro ⟨s9, s10⟩ lr a w ⟨ρ, vv11, hw, hf, o2, o3⟩ hF
      replace hF : impl_transposed_l8 a0 s4 s9 s10 = some lr := hF
      unfold impl_transposed_l8 at hF
      refine c_seq <| c_region ?_
      refine s_ hf (r_lss hf rfl rfl) fun a hf => ?_
      refine c_nt <| c_seq ?_
      rcases of_ite hF with ⟨hb12, hF⟩ | ⟨hb12, hF⟩
      rotate_left
      · refine c_iff hf rfl hb12 <| c_exit <| x_then ?_
        obtain rfl := Option.some.inj hF
        exact Rnd.stops ⟨_, _, hw, hf.sub ⟨rfl, rfl, rfl, rfl, rfl, trivial⟩, o2, o3⟩
      refine c_ift hf rfl hb12 <| c_skip <| n_then <| c_seq <| c_block <| c_seq <| c_region ?_
      obtain ⟨hc13, hF⟩ := of_guard hF
      obtain ⟨ad14, c14, u14, he14, hl14, ho14⟩ := Ro.el_row h0 hc13.1 hc13.2
      refine s_ hf (r_idx Try.underlying24 sz36 hf rfl ⟨_, he14⟩ rfl hc13.1 hc13.2) fun a hf => ?_
      refine s_ hf (r_load_cell ty36 hf rfl (hl14.below hw.below)) fun a hf => ?_
      refine s_ hf (r_assign hf rfl) fun a hf => ?_
      refine c_nt <| c_region ?_
      refine s_ hf (r_move hf rfl) fun a hf => ?_
      refine s_ hf (r_move hf rfl) fun a hf => ?_
      refine s_ hf (r_move hf rfl) fun a hf => ?_
      obtain ⟨hc15, hF⟩ := of_guard hF
      obtain ⟨ad16, c16, he16, hl16⟩ := Ro.el fI64 ho14 0 hc15.1 hc15.2
      refine s_ hf (r_idx Try.underlying36 sz2 hf rfl ⟨_, he16⟩ rfl hc15.1 hc15.2) fun a hf => ?_
      refine s_ hf (r_load_cell ty2 hf rfl (hl16.below hw.below)) fun a hf => ?_
      refine sx_ hf (r_lit (d := fI64) (xs := ([gl 0 (gl [] a0 s9) s4] : List Int)) (vs := [vI (gl 0 (gl [] a0 s9) s4)]) 4 Try.underlying36 el2 (Nat.le_of_ble_eq_true rfl) (Nat.le_of_ble_eq_true rfl) hw hf rfl rfl rfl) fun a v4 w hf hΦ => ?_
      obtain ⟨ρ, hw, hE, o4⟩ := hΦ
      replace o2 := o2.ext hE
      replace o3 := o3.ext hE
      obtain ⟨hc17, hF⟩ := of_guard hF
      refine sx_ hf (r_append Try.underlying36 el2 hw (by decide) o3 o4.ro hc17 hf rfl rfl) fun a va18 w hf hΦ => ?_
      obtain ⟨ρ, hw, hA, o3⟩ := hΦ
      replace o2 := o2.adv hA (by decide)
      replace o4 := o4.adv hA (by decide)
      refine s_ hf (r_assign hf rfl) fun a hf => ?_
      refine c_nil <| n_block <| n_then <| c_region ?_
      refine s_ hf (r_add hf rfl rfl) fun a hf => ?_
      refine s_ hf (r_move hf rfl) fun a hf => ?_
      refine c_nil ?_
      obtain rfl := Option.some.inj hF
      exact Rnd.goes ⟨_, _, hw, hf.sub ⟨rfl, rfl, rfl, rfl, rfl, rfl, rfl, rfl, rfl, trivial⟩, o2, o3⟩
    rintro ⟨s9, s10⟩ a w hs ⟨ρ, vv11, hw, hf, o2, o3⟩
    subst hs
    have hF := hG8
    dsimp only at hF
    refine x_block <| n_then <| c_region ?_
    refine s_ hf (r_move hf rfl) fun a hf => ?_
    refine s_ hf (r_move hf rfl) fun a hf => ?_
    refine sx_ hf (r_lit_row 5 Try.underlying24 el36 hw (by decide) hf rfl o3) fun a v5 w hf hΦ => ?_
    obtain ⟨ρ, hw, hT, hB, o5⟩ := hΦ
    replace o2 := o2.tr (hT 2 (by decide))
    obtain ⟨hc19, hF⟩ := of_guard hF
    refine sx_ hf (r_append_own Try.underlying24 el36 hw (by decide) (by decide) (by decide) o2 o5 hc19 hf rfl rfl) fun a va20 w hf hΦ => ?_
    obtain ⟨ρ, hw, hT, o2⟩ := hΦ
    refine s_ hf (r_assign hf rfl) fun a hf => ?_
    refine c_nil <| n_block <| n_then <| c_region ?_
    refine s_ hf (r_add hf rfl rfl) fun a hf => ?_
    refine s_ hf (r_move hf rfl) fun a hf => ?_
    refine c_nil ?_
    obtain rfl := Option.some.inj hF
    exact Rnd.goes ⟨_, _, hw, hf.sub ⟨rfl, rfl, rfl, rfl, trivial⟩, o2⟩
  rintro ⟨s4, s5⟩ a w hs ⟨ρ, vv6, hw, hf, o2⟩
  subst hs
  have hF := hG3
  dsimp only at hF
  refine x_block <| n_then <| c_seq <| c_region ?_
  refine s_ hf (r_move hf rfl) fun a hf => ?_
  refine s_ hf (r_assign hf rfl) fun a hf => ?_
  refine c_nt <| c_retc ?_
  obtain rfl := Option.some.inj hF
  refine c_ret hf (res_tmp Try.results141 hf rfl) ?_
  exact ⟨_, rfl, hw.below, ⟨_, rfl, o2.out⟩⟩
/-! f177 -/
noncomputable def spec_l04Rows_l6 (a0 : Form) (a2 : Int) (s2 : Int) (s7 : Int) (s8 : List Int) : Option (LR (Int × (List Int)) (List (List Int))) :=
  if (decide (s7 < a2)) = true then (if 0 ≤ w64 ((w64 (a2 * s2)) + s7) ∧ w64 ((w64 (a2 * s2)) + s7) < 9 then (if (s8.length + ([((vg 0 a0 (w64 ((w64 (a2 * s2)) + s7))).toNat : Int)]).length) * 8 ≤ 140737488355328 then (some (.next (w64 (s7 + 1), (s8 ++ [((vg 0 a0 (w64 ((w64 (a2 * s2)) + s7))).toNat : Int)])))) else none) else none) else (some (.stop (s7, s8)))
noncomputable def spec_l04Rows_l1 (a0 : Form) (a1 : Int) (a2 : Int) (s2 : Int) (s3 : List (List Int)) : Option (LR (Int × (List (List Int))) (List (List Int))) :=
  if (decide (s2 < a1)) = true then ((iter (fun s => spec_l04Rows_l6 a0 a2 s2 s.1 s.2) (0, ([] : List Int))).bind fun o => match o with | .stop (s7, s8) => (if (s3.length + ([s8]).length) * 24 ≤ 140737488355328 then (some (.next (w64 (s2 + 1), (s3 ++ [s8])))) else none) | .ret r => some (.ret r) | .next _ => none) else (some (.stop (s2, s3)))
noncomputable def spec_l04Rows (a0 : Form) (a1 : Int) (a2 : Int) : Option (List (List Int)) :=
  (iter (fun s => spec_l04Rows_l1 a0 a1 a2 s.1 s.2) (0, ([] : List (List Int)))).bind fun o => match o with | .stop (s2, s3) => (some (s3)) | .ret r => some r | .next _ => none
theorem spec_l04Rows_ok {w0 : World} {a0 : Form} {a1 : Int} {a2 : Int}   {r : List (List Int)} (hF : spec_l04Rows a0 a1 a2 = some r) :
    Calls Try.prog 177 [.agg (cForm.enc a0).toArray, vI a1, vI a2].toArray w0 fun e w => ∃ v, e = .returned v ∧ Below w0.heap.size w0 w ∧ ∃ u0, u0 = v ∧ Fresh (Kd.slice 2 (kf fI64)) 36 w0 w u0 r := by
  refine calls_of (k := 39) Try.func177 rfl rfl (Nat.le_of_ble_eq_true rfl) fun a hf => ?_
  replace hf : Fr 39 a [(0, .agg (cForm.enc a0).toArray), (1, vI a1), (2, vI a2)] := hf
  refine c_start fun w ρ hw => ?_
  unfold spec_l04Rows at hF
  refine c_seq <| c_region ?_
  refine sx_ hf (r_box (cs := cForm.enc a0) 1 hw hf rfl rfl) fun a v w hf hΦ => ?_
  obtain ⟨g1, ρ, rfl, hw, hE, o1⟩ := hΦ
  have o2 : Ow (Kd.slice 2 (kf fI64)) 36 ρ w w0.heap.size 2 (.slice none 0 0) [] := Ow.nil _ _ _ _ _ _
  refine s_ hf (r_assign hf rfl) fun a hf => ?_
  refine c_nt <| c_seq <| c_region ?_
  refine sx_ hf (r_lit_none (d := (Kd.slice 2 (kf fI64))) 3 Try.underlying24 el36 hw) fun a v3 w hf hΦ => ?_
  obtain ⟨ρ, hw, hE, o3⟩ := hΦ
  replace o1 := o1.ext hE
  replace o2 := o2.ext hE
  refine s_ hf (r_assign hf rfl) fun a hf => ?_
  refine c_nt <| c_seq <| c_seq <| c_region ?_
  refine s_ hf (r_assign hf rfl) fun a hf => ?_
  refine c_nt ?_
  obtain ⟨ol1, ho1, hG1⟩ := of_bind hF
  clear hF
  refine c_block (c_loop (id := 0) (fun s => spec_l04Rows_l1 a0 a1 a2 s.1 s.2) (fun (s : Int × (List (List Int))) a w => match s with | (s2, s3) => ∃ ρ vv4, Wd w0 ρ w ∧ Fr 39 a [(1, vI a1), (2, vI a2), (3, .pointer (some ((⟨g1, 0, none⟩ : Addr).add 0))), (7, vv4), (8, vI s2)] ∧ Va ρ w 1 g1 80 (cForm.enc a0) ∧ O36 ρ w w0 3 vv4 s3) (fun (s : Int × (List (List Int))) a w => match s with | (s2, s3) => ∃ ρ vv4, Wd w0 ρ w ∧ Fr 39 a [(7, vv4)] ∧ O36 ρ w w0 3 vv4 s3) ho1 ⟨_, _, hw, hf.sub ⟨rfl, rfl, rfl, rfl, rfl, trivial⟩, o1, o3⟩ ?_ ?_)
  · rintro ⟨s2, s3⟩ lr a w ⟨ρ, vv4, hw, hf, o1, o3⟩ hF
    replace hF : spec_l04Rows_l1 a0 a1 a2 s2 s3 = some lr := hF
    unfold spec_l04Rows_l1 at hF
    refine c_seq <| c_seq <| c_region ?_
    refine s_ hf (r_move hf rfl) fun a hf => ?_
    refine s_ hf (r_move hf rfl) fun a hf => ?_
    refine s_ hf (r_lss hf rfl rfl) fun a hf => ?_
    refine c_nt ?_
    rcases of_ite hF with ⟨hb5, hF⟩ | ⟨hb5, hF⟩
    rotate_left
    · refine c_iff hf rfl hb5 <| c_exit <| x_then ?_
      obtain rfl := Option.some.inj hF
      exact Rnd.stops ⟨_, _, hw, hf.sub ⟨rfl, trivial⟩, o3⟩
    refine c_ift hf rfl hb5 <| c_skip <| n_then <| c_seq <| c_block <| c_seq <| c_region ?_
    refine sx_ hf (r_lit (d := fI64) (xs := ([] : List Int)) (vs := []) 4 Try.underlying36 el2 (Nat.le_of_ble_eq_true rfl) (Nat.le_of_ble_eq_true rfl) hw hf rfl rfl rfl) fun a v4 w hf hΦ => ?_
    obtain ⟨ρ, hw, hE, o4⟩ := hΦ
    replace o1 := o1.ext hE
    replace o3 := o3.ext hE
    refine s_ hf (r_assign hf rfl) fun a hf => ?_
    refine c_nt <| c_seq <| c_seq <| c_region ?_
    refine s_ hf (r_assign hf rfl) fun a hf => ?_
    refine c_nt ?_
    obtain ⟨ol6, ho6, hG6⟩ := of_bind hF
    clear hF
    refine c_block (c_loop (id := 2) (fun s => spec_l04Rows_l6 a0 a2 s2 s.1 s.2) (fun (s : Int × (List Int)) a w => match s with | (s7, s8) => ∃ ρ vv9, Wd w0 ρ w ∧ Fr 39 a [(1, vI a1), (2, vI a2), (3, .pointer (some ((⟨g1, 0, none⟩ : Addr).add 0))), (7, vv4), (8, vI s2), (9, vv9), (10, vI s7)] ∧ Va ρ w 1 g1 80 (cForm.enc a0) ∧ O36 ρ w w0 3 vv4 s3 ∧ O2 ρ w w0 4 vv9 s8) (fun (s : Int × (List Int)) a w => match s with | (s7, s8) => ∃ ρ vv9, Wd w0 ρ w ∧ Fr 39 a [(1, vI a1), (2, vI a2), (3, .pointer (some ((⟨g1, 0, none⟩ : Addr).add 0))), (7, vv4), (8, vI s2), (9, vv9)] ∧ Va ρ w 1 g1 80 (cForm.enc a0) ∧ O36 ρ w w0 3 vv4 s3 ∧ O2 ρ w w0 4 vv9 s8) ho6 ⟨_, _, hw, hf.sub ⟨rfl, rfl, rfl, rfl, rfl, rfl, rfl, trivial⟩, o1, o3, o4⟩ ?_ ?_)
    · rintro ⟨s7, s8⟩ lr a w ⟨ρ, vv9, hw, hf, o1, o3, o4⟩ hF
      replace hF : spec_l04Rows_l6 a0 a2 s2 s7 s8 = some lr := hF
      unfold spec_l04Rows_l6 at hF
      refine c_seq <| c_seq <| c_region ?_
      refine s_ hf (r_move hf rfl) fun a hf => ?_
      refine s_ hf (r_move hf rfl) fun a hf => ?_
      refine s_ hf (r_lss hf rfl rfl) fun a hf => ?_
      refine c_nt ?_
      rcases of_ite hF with ⟨hb10, hF⟩ | ⟨hb10, hF⟩
      rotate_left
      · refine c_iff hf rfl hb10 <| c_exit <| x_then ?_
        obtain rfl := Option.some.inj hF
        exact Rnd.stops ⟨_, _, hw, hf.sub ⟨rfl, rfl, rfl, rfl, rfl, rfl, trivial⟩, o1, o3, o4⟩
      refine c_ift hf rfl hb10 <| c_skip <| n_then <| c_seq <| c_block <| c_region ?_
      refine s_ hf (r_move hf rfl) fun a hf => ?_
      refine s_ hf (r_move hf rfl) fun a hf => ?_
      refine s_ hf (r_move hf rfl) fun a hf => ?_
      refine s_ hf (r_mul hf rfl rfl) fun a hf => ?_
      refine s_ hf (r_move hf rfl) fun a hf => ?_
      refine s_ hf (r_add hf rfl rfl) fun a hf => ?_
      obtain ⟨hc11, hF⟩ := of_guard hF
      refine s_ hf (r_indexAddr_arr Try.underlying80 sz5 hf rfl rfl hc11.1 hc11.2) fun a hf => ?_
      refine s_ hf (r_load_cell ty5 hf rfl (o1.cl.lens (Lens.vec 0 fU8 (w64 ((w64 (a2 * s2)) + s7)) hc11.1 hc11.2))) fun a hf => ?_
      refine s_ hf (r_conv_u8_i64 Try.underlying5 Try.underlying2 hf rfl) fun a hf => ?_
      refine sx_ hf (r_lit (d := fI64) (xs := ([((vg 0 a0 (w64 ((w64 (a2 * s2)) + s7))).toNat : Int)] : List Int)) (vs := [vI ((vg 0 a0 (w64 ((w64 (a2 * s2)) + s7))).toNat : Int)]) 5 Try.underlying36 el2 (Nat.le_of_ble_eq_true rfl) (Nat.le_of_ble_eq_true rfl) hw hf rfl rfl rfl) fun a v5 w hf hΦ => ?_
      obtain ⟨ρ, hw, hE, o5⟩ := hΦ
      replace o1 := o1.ext hE
      replace o3 := o3.ext hE
      replace o4 := o4.ext hE
      obtain ⟨hc12, hF⟩ := of_guard hF
      refine sx_ hf (r_append Try.underlying36 el2 hw (by decide) o4 o5.ro hc12 hf rfl rfl) fun a va13 w hf hΦ => ?_
      obtain ⟨ρ, hw, hA, o4⟩ := hΦ
      replace o1 := o1.adv hA (by decide)
      replace o3 := o3.adv hA (by decide)
      replace o5 := o5.adv hA (by decide)
      refine s_ hf (r_assign hf rfl) fun a hf => ?_
      refine c_nil <| n_block <| n_then <| c_region ?_
      refine s_ hf (r_move hf rfl) fun a hf => ?_
      refine s_ hf (r_add hf rfl rfl) fun a hf => ?_
      refine s_ hf (r_assign hf rfl) fun a hf => ?_
      refine c_nil ?_
      obtain rfl := Option.some.inj hF
      exact Rnd.goes ⟨_, _, hw, hf.sub ⟨rfl, rfl, rfl, rfl, rfl, rfl, rfl, trivial⟩, o1, o3, o4⟩
    rintro ⟨s7, s8⟩ a w hs ⟨ρ, vv9, hw, hf, o1, o3, o4⟩
    subst hs
    have hF := hG6
    dsimp only at hF
    refine x_block <| n_then <| c_region ?_
    refine s_ hf (r_move hf rfl) fun a hf => ?_
    refine s_ hf (r_move hf rfl) fun a hf => ?_
    refine sx_ hf (r_lit_row 6 Try.underlying24 el36 hw (by decide) hf rfl o4) fun a v6 w hf hΦ => ?_
    obtain ⟨ρ, hw, hT, hB, o6⟩ := hΦ
    replace o1 := o1.tr (hT 1 (by decide))
    replace o3 := o3.tr (hT 3 (by decide))
    obtain ⟨hc14, hF⟩ := of_guard hF
    refine sx_ hf (r_append_own Try.underlying24 el36 hw (by decide) (by decide) (by decide) o3 o6 hc14 hf rfl rfl) fun a va15 w hf hΦ => ?_
    obtain ⟨ρ, hw, hT, o3⟩ := hΦ
    replace o1 := o1.tr (hT 1 (by decide) (by decide))
    refine s_ hf (r_assign hf rfl) fun a hf => ?_
    refine c_nil <| n_block <| n_then <| c_region ?_
    refine s_ hf (r_move hf rfl) fun a hf => ?_
    refine s_ hf (r_add hf rfl rfl) fun a hf => ?_
    refine s_ hf (r_assign hf rfl) fun a hf => ?_
    refine c_nil ?_
    obtain rfl := Option.some.inj hF
    exact Rnd.goes ⟨_, _, hw, hf.sub ⟨rfl, rfl, rfl, rfl, rfl, trivial⟩, o1, o3⟩
  rintro ⟨s2, s3⟩ a w hs ⟨ρ, vv4, hw, hf, o3⟩
  subst hs
  have hF := hG1
  dsimp only at hF
  refine x_block <| n_then <| c_seq <| c_region ?_
  refine s_ hf (r_move hf rfl) fun a hf => ?_
  refine s_ hf (r_assign hf rfl) fun a hf => ?_
  refine c_nt <| c_retc ?_
  obtain rfl := Option.some.inj hF
  refine c_ret hf (res_tmp Try.results177 hf rfl) ?_
  exact ⟨_, rfl, hw.below, ⟨_, rfl, o3.out⟩⟩
/-! f178 -/
noncomputable def spec_l04Form_l5 (a0 : List (List Int)) (s2 : Int) (s6 : Int) (s7 : Form) : Option (LR (Int × Form) Form) :=
  if 0 ≤ s2 ∧ s2 < (a0.length : Int) then (if (decide (s6 < ((gl [] a0 s2).length : Int))) = true then (if 0 ≤ s6 ∧ s6 < ((gl [] a0 s2).length : Int) then (if 0 ≤ w64 ((w64 (((gl [] a0 s2).length : Int) * s2)) + s6) ∧ w64 ((w64 (((gl [] a0 s2).length : Int) * s2)) + s6) < 9 then (some (.next (w64 (s6 + 1), vs s7 (w64 ((w64 (((gl [] a0 s2).length : Int) * s2)) + s6)) (u8 (gl 0 (gl [] a0 s2) s6))))) else none) else none) else (some (.stop (s6, s7)))) else none
noncomputable def spec_l04Form_l1 (a0 : List (List Int)) (s2 : Int) (s3 : Form) : Option (LR (Int × Form) Form) :=
  if (decide (s2 < (a0.length : Int))) = true then ((iter (fun s => spec_l04Form_l5 a0 s2 s.1 s.2) (0, s3)).bind fun o => match o with | .stop (s6, s7) => (some (.next (w64 (s2 + 1), s7))) | .ret r => some (.ret r) | .next _ => none) else (some (.stop (s2, s3)))
noncomputable def spec_l04Form (a0 : List (List Int)) : Option Form :=
  (iter (fun s => spec_l04Form_l1 a0 s.1 s.2) (0, zForm)).bind fun o => match o with | .stop (s2, s3) => (some (s3)) | .ret r => some r | .next _ => none
theorem spec_l04Form_ok {w0 : World} {a0 : List (List Int)} {va0 : Value} (h0 : Ro (Kd.slice 2 (kf fI64)) w0 va0 a0) {r : Form} (hF : spec_l04Form a0 = some r) :
    Calls Try.prog 178 [va0].toArray w0 fun e w => ∃ v, e = .returned v ∧ Below w0.heap.size w0 w ∧ .agg (cForm.enc r).toArray = v := by
  refine calls_of (k := 41) Try.func178 rfl rfl (Nat.le_of_ble_eq_true rfl) fun a hf => ?_
  replace hf : Fr 41 a [(0, va0)] := hf
  refine c_start fun w ρ hw => ?_
  unfold spec_l04Form at hF
  refine c_seq <| c_region ?_
  refine sx_ hf (r_alloc (cs := cForm.enc zForm) 1 ze80 rfl hw) fun a v w hf hΦ => ?_
  obtain ⟨g1, ρ, rfl, hw, hE, o1⟩ := hΦ
  refine c_nt <| c_seq <| c_region ?_
  refine s_ hf (r_build_arr (vs := []) (res := (cForm.enc zForm).toArray) Try.underlying80 sz5 ze80 hf rfl rfl rfl) fun a hf => ?_
  refine sx_ hf (r_alloc (cs := cForm.enc zForm) 2 ze80 rfl hw) fun a v w hf hΦ => ?_
  obtain ⟨g2, ρ, rfl, hw, hE, o2⟩ := hΦ
  replace o1 := o1.ext hE
  refine sk_ hf (r_store_w (cs' := cForm.enc zForm) hw o2 (by decide) ty80 (cForm.len _) (cForm.len _) (cForm.one _) hf rfl rfl rfl) fun a w hf hΦ => ?_
  obtain ⟨hw, hA, o2⟩ := hΦ
  replace o1 := o1.adv hA (by decide)
  refine c_nt <| c_seq <| c_seq <| c_region ?_
  refine s_ hf (r_assign hf rfl) fun a hf => ?_
  refine c_nt ?_
  obtain ⟨ol1, ho1, hG1⟩ := of_bind hF
  clear hF
  refine c_block (c_loop (id := 0) (fun s => spec_l04Form_l1 a0 s.1 s.2) (fun (s : Int × Form) a w => match s with | (s2, s3) => ∃ ρ, Wd w0 ρ w ∧ Fr 41 a [(0, va0), (2, .pointer (some ((⟨g1, 0, none⟩ : Addr).add 0))), (3, .pointer (some ((⟨g2, 0, none⟩ : Addr).add 0))), (4, vI s2)] ∧ Va ρ w 1 g1 80 (cForm.enc zForm) ∧ Va ρ w 2 g2 80 (cForm.enc s3)) (fun (s : Int × Form) a w => match s with | (s2, s3) => ∃ ρ, Wd w0 ρ w ∧ Fr 41 a [(2, .pointer (some ((⟨g1, 0, none⟩ : Addr).add 0))), (3, .pointer (some ((⟨g2, 0, none⟩ : Addr).add 0)))] ∧ Va ρ w 1 g1 80 (cForm.enc zForm) ∧ Va ρ w 2 g2 80 (cForm.enc s3)) ho1 ⟨_, hw, hf.sub ⟨rfl, rfl, rfl, rfl, trivial⟩, o1, o2⟩ ?_ ?_)
  · rintro ⟨s2, s3⟩ lr a w ⟨ρ, hw, hf, o1, o2⟩ hF
    replace hF : spec_l04Form_l1 a0 s2 s3 = some lr := hF
    unfold spec_l04Form_l1 at hF
    refine c_seq <| c_seq <| c_region ?_
    refine s_ hf (r_move hf rfl) fun a hf => ?_
    refine s_ hf (r_move hf rfl) fun a hf => ?_
    refine s_ hf (r_len Try.underlying24 (h0.now hw) hf rfl) fun a hf => ?_
    refine s_ hf (r_lss hf rfl rfl) fun a hf => ?_
    refine c_nt ?_
    rcases of_ite hF with ⟨hb4, hF⟩ | ⟨hb4, hF⟩
    rotate_left
    · refine c_iff hf rfl hb4 <| c_exit <| x_then ?_
      obtain rfl := Option.some.inj hF
      exact Rnd.stops ⟨_, hw, hf.sub ⟨rfl, rfl, trivial⟩, o1, o2⟩
    refine c_ift hf rfl hb4 <| c_skip <| n_then <| c_seq <| c_block <| c_seq <| c_region ?_
    refine s_ hf (r_assign hf rfl) fun a hf => ?_
    refine c_nt ?_
    obtain ⟨ol5, ho5, hG5⟩ := of_bind hF
    clear hF
    refine c_block (c_loop (id := 2) (fun s => spec_l04Form_l5 a0 s2 s.1 s.2) (fun (s : Int × Form) a w => match s with | (s6, s7) => ∃ ρ, Wd w0 ρ w ∧ Fr 41 a [(0, va0), (2, .pointer (some ((⟨g1, 0, none⟩ : Addr).add 0))), (3, .pointer (some ((⟨g2, 0, none⟩ : Addr).add 0))), (4, vI s2), (5, vI s6)] ∧ Va ρ w 1 g1 80 (cForm.enc zForm) ∧ Va ρ w 2 g2 80 (cForm.enc s7)) (fun (s : Int × Form) a w => match s with | (s6, s7) => ∃ ρ, Wd w0 ρ w ∧ Fr 41 a [(0, va0), (2, .pointer (some ((⟨g1, 0, none⟩ : Addr).add 0))), (3, .pointer (some ((⟨g2, 0, none⟩ : Addr).add 0))), (4, vI s2)] ∧ Va ρ w 1 g1 80 (cForm.enc zForm) ∧ Va ρ w 2 g2 80 (cForm.enc s7)) ho5 ⟨_, hw, hf.sub ⟨rfl, rfl, rfl, rfl, rfl, trivial⟩, o1, o2⟩ ?_ ?_)
    · rintro ⟨s6, s7⟩ lr a w ⟨ρ, hw, hf, o1, o2⟩ hF
      replace hF : spec_l04Form_l5 a0 s2 s6 s7 = some lr := hF
      unfold spec_l04Form_l5 at hF
      refine c_seq <| c_seq <| c_region ?_
      refine s_ hf (r_move hf rfl) fun a hf => ?_
      refine s_ hf (r_move hf rfl) fun a hf => ?_
      refine s_ hf (r_move hf rfl) fun a hf => ?_
      obtain ⟨hc8, hF⟩ := of_guard hF
      obtain ⟨ad9, c9, u9, he9, hl9, ho9⟩ := Ro.el_row h0 hc8.1 hc8.2
      refine s_ hf (r_idx Try.underlying24 sz36 hf rfl ⟨_, he9⟩ rfl hc8.1 hc8.2) fun a hf => ?_
      refine s_ hf (r_load_cell ty36 hf rfl (hl9.below hw.below)) fun a hf => ?_
      refine s_ hf (r_len Try.underlying36 (ho9.now hw) hf rfl) fun a hf => ?_
      refine s_ hf (r_lss hf rfl rfl) fun a hf => ?_
      refine c_nt ?_
      rcases of_ite hF with ⟨hb10, hF⟩ | ⟨hb10, hF⟩
      rotate_left
      · refine c_iff hf rfl hb10 <| c_exit <| x_then ?_
        obtain rfl := Option.some.inj hF
        exact Rnd.stops ⟨_, hw, hf.sub ⟨rfl, rfl, rfl, rfl, trivial⟩, o1, o2⟩
      refine c_ift hf rfl hb10 <| c_skip <| n_then <| c_seq <| c_block ?_
      obtain ⟨ad11, c11, u11, he11, hl11, ho11⟩ := Ro.el_row h0 hc8.1 hc8.2
      obtain ⟨ad12, c12, u12, he12, hl12, ho12⟩ := Ro.el_row h0 hc8.1 hc8.2
      obtain ⟨hc13, hF⟩ := of_guard hF
      obtain ⟨ad14, c14, he14, hl14⟩ := Ro.el fI64 ho12 0 hc13.1 hc13.2
      replace hf : Fr 41 a [(0, va0), (2, .pointer (some ((⟨g1, 0, none⟩ : Addr).add 0))), (3, .pointer (some ((⟨g2, 0, none⟩ : Addr).add 0))), (4, vI s2), (5, vI s6)] := hf.sub ⟨rfl, rfl, rfl, rfl, rfl, trivial⟩
      refine c_drawL (h := 17) mixed (by kernel_rfl) (by kernel_rfl) (fun ρ w => Va ρ w 1 g1 80 (cForm.enc zForm) ∧ Va ρ w 2 g2 80 (cForm.enc s7)) ?_ [fun ρ w v => va0 = v, fun ρ w v => vI s2 = v, fun ρ w v => .pointer (some (ad11.add (s2.toNat * 1))) = v, fun ρ w v => u11 = v, fun ρ w v => vI ((gl [] a0 s2).length : Int) = v, fun ρ w v => vI s2 = v, fun ρ w v => vI (w64 (((gl [] a0 s2).length : Int) * s2)) = v, fun ρ w v => vI s6 = v, fun ρ w v => vI (w64 ((w64 (((gl [] a0 s2).length : Int) * s2)) + s6)) = v, fun ρ w v => va0 = v, fun ρ w v => vI s2 = v, fun ρ w v => .pointer (some (ad12.add (s2.toNat * 1))) = v, fun ρ w v => u12 = v, fun ρ w v => vI s6 = v, fun ρ w v => .pointer (some (ad14.add (s6.toNat * 1))) = v, fun ρ w v => vI (gl 0 (gl [] a0 s2) s6) = v, fun ρ w v => vB (u8 (gl 0 (gl [] a0 s2) s6)) = v] ?_ hw ⟨o1, o2⟩ hf ?_ ?_
      · intro ρ w ρ' w' hE hG
        obtain ⟨o1, o2⟩ := hG
        exact ⟨o1.ext hE, o2.ext hE⟩
      · exact LastsL.cons (fun _ _ _ _ _ _ h => h) <| LastsL.cons (fun _ _ _ _ _ _ h => h) <| LastsL.cons (fun _ _ _ _ _ _ h => h) <| LastsL.cons (fun _ _ _ _ _ _ h => h) <| LastsL.cons (fun _ _ _ _ _ _ h => h) <| LastsL.cons (fun _ _ _ _ _ _ h => h) <| LastsL.cons (fun _ _ _ _ _ _ h => h) <| LastsL.cons (fun _ _ _ _ _ _ h => h) <| LastsL.cons (fun _ _ _ _ _ _ h => h) <| LastsL.cons (fun _ _ _ _ _ _ h => h) <| LastsL.cons (fun _ _ _ _ _ _ h => h) <| LastsL.cons (fun _ _ _ _ _ _ h => h) <| LastsL.cons (fun _ _ _ _ _ _ h => h) <| LastsL.cons (fun _ _ _ _ _ _ h => h) <| LastsL.cons (fun _ _ _ _ _ _ h => h) <| LastsL.cons (fun _ _ _ _ _ _ h => h) <| LastsL.cons (fun _ _ _ _ _ _ h => h) <| LastsL.nil
      · refine StepsB.cons ?_ <| StepsB.cons ?_ <| StepsB.cons ?_ <| StepsB.cons ?_ <| StepsB.cons ?_ <| StepsB.cons ?_ <| StepsB.cons ?_ <| StepsB.cons ?_ <| StepsB.cons ?_ <| StepsB.cons ?_ <| StepsB.cons ?_ <| StepsB.cons ?_ <| StepsB.cons ?_ <| StepsB.cons ?_ <| StepsB.cons ?_ <| StepsB.cons ?_ <| StepsB.cons ?_ <| StepsB.nil
        · intro ρ w a hw hG hf hd K hK
          obtain ⟨o1, o2⟩ := hG
          exact dv_ hK hw (wn rfl) (r_move hf rfl) rfl
        · intro ρ w a hw hG hf hd K hK
          obtain ⟨o1, o2⟩ := hG
          exact dv_ hK hw (wn rfl) (r_move hf rfl) rfl
        · intro ρ w a hw hG hf hd K hK
          obtain ⟨o1, o2⟩ := hG
          obtain ⟨_, hf, rfl⟩ := got (hd 0 (by kernel_rfl)) hf
          obtain ⟨_, hf, rfl⟩ := got (hd 1 (by kernel_rfl)) hf
          exact dv_ hK hw (wn rfl) (r_idx Try.underlying24 sz36 hf rfl ⟨_, he11⟩ rfl hc8.1 hc8.2) rfl
        · intro ρ w a hw hG hf hd K hK
          obtain ⟨o1, o2⟩ := hG
          obtain ⟨_, hf, rfl⟩ := got (hd 2 (by kernel_rfl)) hf
          exact dv_ hK hw (wn rfl) (r_load_cell ty36 hf rfl (hl11.below hw.below)) rfl
        · intro ρ w a hw hG hf hd K hK
          obtain ⟨o1, o2⟩ := hG
          obtain ⟨_, hf, rfl⟩ := got (hd 3 (by kernel_rfl)) hf
          exact dv_ hK hw (wn rfl) (r_len Try.underlying36 (ho11.now hw) hf rfl) rfl
        · intro ρ w a hw hG hf hd K hK
          obtain ⟨o1, o2⟩ := hG
          exact dv_ hK hw (wn rfl) (r_move hf rfl) rfl
        · intro ρ w a hw hG hf hd K hK
          obtain ⟨o1, o2⟩ := hG
          obtain ⟨_, hf, rfl⟩ := got (hd 4 (by kernel_rfl)) hf
          obtain ⟨_, hf, rfl⟩ := got (hd 5 (by kernel_rfl)) hf
          exact dv_ hK hw (wn rfl) (r_mul hf rfl rfl) rfl
        · intro ρ w a hw hG hf hd K hK
          obtain ⟨o1, o2⟩ := hG
          exact dv_ hK hw (wn rfl) (r_move hf rfl) rfl
        · intro ρ w a hw hG hf hd K hK
          obtain ⟨o1, o2⟩ := hG
          obtain ⟨_, hf, rfl⟩ := got (hd 6 (by kernel_rfl)) hf
          obtain ⟨_, hf, rfl⟩ := got (hd 7 (by kernel_rfl)) hf
          exact dv_ hK hw (wn rfl) (r_add hf rfl rfl) rfl
        · intro ρ w a hw hG hf hd K hK
          obtain ⟨o1, o2⟩ := hG
          exact dv_ hK hw (wn rfl) (r_move hf rfl) rfl
        · intro ρ w a hw hG hf hd K hK
          obtain ⟨o1, o2⟩ := hG
          exact dv_ hK hw (wn rfl) (r_move hf rfl) rfl
        · intro ρ w a hw hG hf hd K hK
          obtain ⟨o1, o2⟩ := hG
          obtain ⟨_, hf, rfl⟩ := got (hd 9 (by kernel_rfl)) hf
          obtain ⟨_, hf, rfl⟩ := got (hd 10 (by kernel_rfl)) hf
          exact dv_ hK hw (wn rfl) (r_idx Try.underlying24 sz36 hf rfl ⟨_, he12⟩ rfl hc8.1 hc8.2) rfl
        · intro ρ w a hw hG hf hd K hK
          obtain ⟨o1, o2⟩ := hG
          obtain ⟨_, hf, rfl⟩ := got (hd 11 (by kernel_rfl)) hf
          exact dv_ hK hw (wn rfl) (r_load_cell ty36 hf rfl (hl12.below hw.below)) rfl
        · intro ρ w a hw hG hf hd K hK
          obtain ⟨o1, o2⟩ := hG
          exact dv_ hK hw (wn rfl) (r_move hf rfl) rfl
        · intro ρ w a hw hG hf hd K hK
          obtain ⟨o1, o2⟩ := hG
          obtain ⟨_, hf, rfl⟩ := got (hd 12 (by kernel_rfl)) hf
          obtain ⟨_, hf, rfl⟩ := got (hd 13 (by kernel_rfl)) hf
          exact dv_ hK hw (wn rfl) (r_idx Try.underlying36 sz2 hf rfl ⟨_, he14⟩ rfl hc13.1 hc13.2) rfl
        · intro ρ w a hw hG hf hd K hK
          obtain ⟨o1, o2⟩ := hG
          obtain ⟨_, hf, rfl⟩ := got (hd 14 (by kernel_rfl)) hf
          exact dv_ hK hw (wn rfl) (r_load_cell ty2 hf rfl (hl14.below hw.below)) rfl
        · intro ρ w a hw hG hf hd K hK
          obtain ⟨o1, o2⟩ := hG
          obtain ⟨_, hf, rfl⟩ := got (hd 15 (by kernel_rfl)) hf
          exact dv_ hK hw (wn rfl) (r_conv_i64_u8 Try.underlying2 Try.underlying5 hf rfl) rfl
      intro ρ w a hw hG hf hd
      obtain ⟨o1, o2⟩ := hG
      obtain ⟨_, hf, rfl⟩ := got (hd 8 (by decide)) hf
      obtain ⟨_, hf, rfl⟩ := got (hd 16 (by decide)) hf
      obtain ⟨hc15, hF⟩ := of_guard hF
      refine s_ hf (r_indexAddr_arr Try.underlying80 sz5 hf rfl rfl hc15.1 hc15.2) fun a hf => ?_
      refine sk_ hf (r_store_l (b := u8 (gl 0 (gl [] a0 s2) s6)) hw o2 (by decide) (Lens.vec 0 fU8 (w64 ((w64 (((gl [] a0 s2).length : Int) * s2)) + s6)) hc15.1 hc15.2) (by simp only [Nat.zero_add] <;> rfl) ty5 hf rfl rfl rfl) fun a w hf hΦ => ?_
      obtain ⟨hw, hA, o2⟩ := hΦ
      replace o1 := o1.adv hA (by decide)
      refine c_nil <| n_block <| n_then <| c_region ?_
      refine s_ hf (r_move hf rfl) fun a hf => ?_
      refine s_ hf (r_add hf rfl rfl) fun a hf => ?_
      refine s_ hf (r_assign hf rfl) fun a hf => ?_
      refine c_nil ?_
      obtain rfl := Option.some.inj hF
      exact Rnd.goes ⟨_, hw, hf.sub ⟨rfl, rfl, rfl, rfl, rfl, trivial⟩, o1, o2⟩
    rintro ⟨s6, s7⟩ a w hs ⟨ρ, hw, hf, o1, o2⟩
    subst hs
    have hF := hG5
    dsimp only at hF
    refine x_block <| n_block <| n_then <| c_region ?_
    refine s_ hf (r_move hf rfl) fun a hf => ?_
    refine s_ hf (r_add hf rfl rfl) fun a hf => ?_
    refine s_ hf (r_assign hf rfl) fun a hf => ?_
    refine c_nil ?_
    obtain rfl := Option.some.inj hF
    exact Rnd.goes ⟨_, hw, hf.sub ⟨rfl, rfl, rfl, rfl, trivial⟩, o1, o2⟩
  rintro ⟨s2, s3⟩ a w hs ⟨ρ, hw, hf, o1, o2⟩
  subst hs
  have hF := hG1
  dsimp only at hF
  refine x_block <| n_then <| c_seq <| c_region ?_
  refine s_ hf (r_load_agg ty80 hf rfl o2.cl (cForm.len _)) fun a hf => ?_
  refine sk_ hf (r_store_w (cs' := cForm.enc s3) hw o1 (by decide) ty80 (cForm.len _) (cForm.len _) (cForm.one _) hf rfl rfl rfl) fun a w hf hΦ => ?_
  obtain ⟨hw, hA, o1⟩ := hΦ
  replace o2 := o2.adv hA (by decide)
  refine c_nt <| c_retc ?_
  obtain rfl := Option.some.inj hF
  refine c_ret hf (res_cell Try.results178 ty80 hf rfl o1.cl (cForm.len _)) ?_
  exact ⟨_, rfl, hw.below, rfl⟩
/-! f179 -/
noncomputable def spec_l01Plain_l13 (a0 : Int) (a1 : List (List Int)) (a2 : List (List Int)) (s2 : Int) (s10 : Int) (s14 : Int) (s15 : List Int) : Option (LR (Int × (List Int)) (List (List Int))) :=
  if (decide (s14 < (s15.length : Int))) = true then (if 0 ≤ s14 ∧ s14 < (s15.length : Int) then (if 0 ≤ s2 ∧ s2 < (a1.length : Int) then (if 0 ≤ s10 ∧ s10 < ((gl [] a1 s2).length : Int) then (if 0 ≤ s10 ∧ s10 < (a2.length : Int) then (if 0 ≤ s14 ∧ s14 < ((gl [] a2 s10).length : Int) then (if a0 ≠ 0 then (some (.next (w64 (s14 + 1), (s15.set s14.toNat ((w64 ((gl 0 s15 s14) + (w64 ((gl 0 (gl [] a1 s2) s10) * (gl 0 (gl [] a2 s10) s14))))).tmod a0))))) else none) else none) else none) else none) else none) else none) else (some (.stop (s14, s15)))
noncomputable def spec_l01Plain_l9 (a0 : Int) (a1 : List (List Int)) (a2 : List (List Int)) (s2 : Int) (s10 : Int) (s11 : List Int) : Option (LR (Int × (List Int)) (List (List Int))) :=
  if (decide (s10 < (a2.length : Int))) = true then ((iter (fun s => spec_l01Plain_l13 a0 a1 a2 s2 s10 s.1 s.2) (0, s11)).bind fun o => match o with | .stop (s14, s15) => (some (.next (w64 (s10 + 1), s15))) | .ret r => some (.ret r) | .next _ => none) else (some (.stop (s10, s11)))
noncomputable def spec_l01Plain_l1 (a0 : Int) (a1 : List (List Int)) (a2 : List (List Int)) (s2 : Int) (s3 : List (List Int)) : Option (LR (Int × (List (List Int))) (List (List Int))) :=
  if (decide (s2 < (a1.length : Int))) = true then (if 0 ≤ (0 : Int) ∧ (0 : Int) < (a2.length : Int) then (if 0 ≤ ((gl [] a2 (0 : Int)).length : Int) ∧ ((gl [] a2 (0 : Int)).length : Int) * 8 ≤ 281474976710656 then ((iter (fun s => spec_l01Plain_l9 a0 a1 a2 s2 s.1 s.2) (0, (List.replicate ((gl [] a2 (0 : Int)).length : Int).toNat (0 : Int)))).bind fun o => match o with | .stop (s10, s11) => (if (s3.length + ([s11]).length) * 24 ≤ 140737488355328 then (some (.next (w64 (s2 + 1), (s3 ++ [s11])))) else none) | .ret r => some (.ret r) | .next _ => none) else none) else none) else (some (.stop (s2, s3)))
noncomputable def spec_l01Plain (a0 : Int) (a1 : List (List Int)) (a2 : List (List Int)) : Option (List (List Int)) :=
  (iter (fun s => spec_l01Plain_l1 a0 a1 a2 s.1 s.2) (0, ([] : List (List Int)))).bind fun o => match o with | .stop (s2, s3) => (some (s3)) | .ret r => some r | .next _ => none
theorem spec_l01Plain_ok {w0 : World} {a0 : Int} {a1 : List (List Int)} {a2 : List (List Int)} {va1 : Value} {va2 : Value} (h1 : Ro (Kd.slice 2 (kf fI64)) w0 va1 a1) (h2 : Ro (Kd.slice 2 (kf fI64)) w0 va2 a2) {r : List (List Int)} (hF : spec_l01Plain a0 a1 a2 = some r) :
    Calls Try.prog 179 [vI a0, va1, va2].toArray w0 fun e w => ∃ v, e = .returned v ∧ Below w0.heap.size w0 w ∧ ∃ u0, u0 = v ∧ Fresh (Kd.slice 2 (kf fI64)) 36 w0 w u0 r := by
  refine calls_of (k := 66) Try.func179 rfl rfl (Nat.le_of_ble_eq_true rfl) fun a hf => ?_
  replace hf : Fr 66 a [(0, vI a0), (1, va1), (2, va2)] := hf
  refine c_start fun w ρ hw => ?_
  unfold spec_l01Plain at hF
  refine c_seq <| c_region ?_
  have o1 : Ow (Kd.slice 2 (kf fI64)) 36 ρ w w0.heap.size 1 (.slice none 0 0) [] := Ow.nil _ _ _ _ _ _
  refine s_ hf (r_assign hf rfl) fun a hf => ?_
  refine c_nt <| c_seq <| c_region ?_
  refine sx_ hf (r_lit_none (d := (Kd.slice 2 (kf fI64))) 2 Try.underlying24 el36 hw) fun a v2 w hf hΦ => ?_
  obtain ⟨ρ, hw, hE, o2⟩ := hΦ
  replace o1 := o1.ext hE
  refine s_ hf (r_assign hf rfl) fun a hf => ?_
  refine c_nt <| c_seq <| c_seq <| c_region ?_
  refine s_ hf (r_assign hf rfl) fun a hf => ?_
  refine c_nt ?_
  obtain ⟨ol1, ho1, hG1⟩ := of_bind hF
  clear hF
  refine c_block (c_loop (id := 0) (fun s => spec_l01Plain_l1 a0 a1 a2 s.1 s.2) (fun (s : Int × (List (List Int))) a w => match s with | (s2, s3) => ∃ ρ vv4, Wd w0 ρ w ∧ Fr 66 a [(0, vI a0), (1, va1), (2, va2), (7, vv4), (8, vI s2)] ∧ O36 ρ w w0 2 vv4 s3) (fun (s : Int × (List (List Int))) a w => match s with | (s2, s3) => ∃ ρ vv4, Wd w0 ρ w ∧ Fr 66 a [(7, vv4)] ∧ O36 ρ w w0 2 vv4 s3) ho1 ⟨_, _, hw, hf.sub ⟨rfl, rfl, rfl, rfl, rfl, trivial⟩, o2⟩ ?_ ?_)
  · rintro ⟨s2, s3⟩ lr a w ⟨ρ, vv4, hw, hf, o2⟩ hF
    replace hF : spec_l01Plain_l1 a0 a1 a2 s2 s3 = some lr := hF
    unfold spec_l01Plain_l1 at hF
    refine c_seq <| c_seq <| c_region ?_
    refine s_ hf (r_move hf rfl) fun a hf => ?_
    refine s_ hf (r_move hf rfl) fun a hf => ?_
    refine s_ hf (r_len Try.underlying24 (h1.now hw) hf rfl) fun a hf => ?_
    refine s_ hf (r_lss hf rfl rfl) fun a hf => ?_
    refine c_nt ?_
    rcases of_ite hF with ⟨hb5, hF⟩ | ⟨hb5, hF⟩
    rotate_left
    · refine c_iff hf rfl hb5 <| c_exit <| x_then ?_
      obtain rfl := Option.some.inj hF
      exact Rnd.stops ⟨_, _, hw, hf.sub ⟨rfl, trivial⟩, o2⟩
    refine c_ift hf rfl hb5 <| c_skip <| n_then <| c_seq <| c_block <| c_seq <| c_region ?_
    refine s_ hf (r_move hf rfl) fun a hf => ?_
    obtain ⟨hc6, hF⟩ := of_guard hF
    obtain ⟨ad7, c7, u7, he7, hl7, ho7⟩ := Ro.el_row h2 hc6.1 hc6.2
    refine s_ hf (r_idx Try.underlying24 sz36 hf rfl ⟨_, he7⟩ rfl hc6.1 hc6.2) fun a hf => ?_
    refine s_ hf (r_load_cell ty36 hf rfl (hl7.below hw.below)) fun a hf => ?_
    refine s_ hf (r_len Try.underlying36 (ho7.now hw) hf rfl) fun a hf => ?_
    obtain ⟨hc8, hF⟩ := of_guard hF
    refine sx_ hf (r_make (d := fI64) (z0 := 0) 3 Try.underlying36 el2 rfl hw hf rfl hc8.1 (mk_le hc8.1 hc8.2)) fun a v3 w hf hΦ => ?_
    obtain ⟨ρ, hw, hE, o3⟩ := hΦ
    replace o2 := o2.ext hE
    refine s_ hf (r_assign hf rfl) fun a hf => ?_
    refine c_nt <| c_seq <| c_seq <| c_region ?_
    refine s_ hf (r_assign hf rfl) fun a hf => ?_
    refine c_nt ?_
    obtain ⟨ol9, ho9, hG9⟩ := of_bind hF
    clear hF
    refine c_block (c_loop (id := 2) (fun s => spec_l01Plain_l9 a0 a1 a2 s2 s.1 s.2) (fun (s : Int × (List Int)) a w => match s with | (s10, s11) => ∃ ρ, Wd w0 ρ w ∧ Fr 66 a [(0, vI a0), (1, va1), (2, va2), (7, vv4), (8, vI s2), (9, v3), (10, vI s10)] ∧ O36 ρ w w0 2 vv4 s3 ∧ O2 ρ w w0 3 v3 s11) (fun (s : Int × (List Int)) a w => match s with | (s10, s11) => ∃ ρ, Wd w0 ρ w ∧ Fr 66 a [(0, vI a0), (1, va1), (2, va2), (7, vv4), (8, vI s2), (9, v3)] ∧ O36 ρ w w0 2 vv4 s3 ∧ O2 ρ w w0 3 v3 s11) ho9 ⟨_, hw, hf.sub ⟨rfl, rfl, rfl, rfl, rfl, rfl, rfl, trivial⟩, o2, o3⟩ ?_ ?_)
    · rintro ⟨s10, s11⟩ lr a w ⟨ρ, hw, hf, o2, o3⟩ hF
      replace hF : spec_l01Plain_l9 a0 a1 a2 s2 s10 s11 = some lr := hF
      unfold spec_l01Plain_l9 at hF
      refine c_seq <| c_seq <| c_region ?_
      refine s_ hf (r_move hf rfl) fun a hf => ?_
      refine s_ hf (r_move hf rfl) fun a hf => ?_
      refine s_ hf (r_len Try.underlying24 (h2.now hw) hf rfl) fun a hf => ?_
      refine s_ hf (r_lss hf rfl rfl) fun a hf => ?_
      refine c_nt ?_
      rcases of_ite hF with ⟨hb12, hF⟩ | ⟨hb12, hF⟩
      rotate_left
      · refine c_iff hf rfl hb12 <| c_exit <| x_then ?_
        obtain rfl := Option.some.inj hF
        exact Rnd.stops ⟨_, hw, hf.sub ⟨rfl, rfl, rfl, rfl, rfl, rfl, trivial⟩, o2, o3⟩
      refine c_ift hf rfl hb12 <| c_skip <| n_then <| c_seq <| c_block <| c_seq <| c_region ?_
      refine s_ hf (r_assign hf rfl) fun a hf => ?_
      refine c_nt ?_
      obtain ⟨ol13, ho13, hG13⟩ := of_bind hF
      clear hF
      refine c_block (c_loop (id := 4) (fun s => spec_l01Plain_l13 a0 a1 a2 s2 s10 s.1 s.2) (fun (s : Int × (List Int)) a w => match s with | (s14, s15) => ∃ ρ, Wd w0 ρ w ∧ Fr 66 a [(0, vI a0), (1, va1), (2, va2), (7, vv4), (8, vI s2), (9, v3), (10, vI s10), (11, vI s14)] ∧ O36 ρ w w0 2 vv4 s3 ∧ O2 ρ w w0 3 v3 s15) (fun (s : Int × (List Int)) a w => match s with | (s14, s15) => ∃ ρ, Wd w0 ρ w ∧ Fr 66 a [(0, vI a0), (1, va1), (2, va2), (7, vv4), (8, vI s2), (9, v3), (10, vI s10)] ∧ O36 ρ w w0 2 vv4 s3 ∧ O2 ρ w w0 3 v3 s15) ho13 ⟨_, hw, hf.sub ⟨rfl, rfl, rfl, rfl, rfl, rfl, rfl, rfl, trivial⟩, o2, o3⟩ ?_ ?_)
      · rintro ⟨s14, s15⟩ lr a w ⟨ρ, hw, hf, o2, o3⟩ hF
        replace hF : spec_l01Plain_l13 a0 a1 a2 s2 s10 s14 s15 = some lr := hF
        unfold spec_l01Plain_l13 at hF
        refine c_seq <| c_seq <| c_region ?_
        refine s_ hf (r_move hf rfl) fun a hf => ?_
        refine s_ hf (r_move hf rfl) fun a hf => ?_
        refine s_ hf (r_len Try.underlying36 o3.ro hf rfl) fun a hf => ?_
        refine s_ hf (r_lss hf rfl rfl) fun a hf => ?_
        refine c_nt ?_
        rcases of_ite hF with ⟨hb16, hF⟩ | ⟨hb16, hF⟩
        rotate_left
        · refine c_iff hf rfl hb16 <| c_exit <| x_then ?_
          obtain rfl := Option.some.inj hF
          exact Rnd.stops ⟨_, hw, hf.sub ⟨rfl, rfl, rfl, rfl, rfl, rfl, rfl, trivial⟩, o2, o3⟩
        refine c_ift hf rfl hb16 <| c_skip <| n_then <| c_seq <| c_block ?_
        obtain ⟨hc17, hF⟩ := of_guard hF
        obtain ⟨hc19, hF⟩ := of_guard hF
        obtain ⟨ad20, c20, u20, he20, hl20, ho20⟩ := Ro.el_row h1 hc19.1 hc19.2
        obtain ⟨hc21, hF⟩ := of_guard hF
        obtain ⟨ad22, c22, he22, hl22⟩ := Ro.el fI64 ho20 0 hc21.1 hc21.2
        obtain ⟨hc23, hF⟩ := of_guard hF
        obtain ⟨ad24, c24, u24, he24, hl24, ho24⟩ := Ro.el_row h2 hc23.1 hc23.2
        obtain ⟨hc25, hF⟩ := of_guard hF
        obtain ⟨ad26, c26, he26, hl26⟩ := Ro.el fI64 ho24 0 hc25.1 hc25.2
        obtain ⟨hc27, hF⟩ := of_guard hF
        replace hf : Fr 66 a [(0, vI a0), (1, va1), (2, va2), (7, vv4), (8, vI s2), (9, v3), (10, vI s10), (11, vI s14)] := hf.sub ⟨rfl, rfl, rfl, rfl, rfl, rfl, rfl, rfl, trivial⟩
        refine c_drawL (h := 24) mixed (by kernel_rfl) (by kernel_rfl) (fun ρ w => O36 ρ w w0 2 vv4 s3 ∧ O2 ρ w w0 3 v3 s15) ?_ [fun ρ w v => v3 = v, fun ρ w v => vI s14 = v, fun ρ w v => v3 = v, fun ρ w v => vI s14 = v, fun ρ w v => ∃ ad18, .pointer (some (ad18.add (s14.toNat * 1))) = v ∧ Ce ρ w 3 v3 s15.length ad18 (s14.toNat * 1) (fI64.enc (gl 0 s15 s14)), fun ρ w v => vI (gl 0 s15 s14) = v, fun ρ w v => va1 = v, fun ρ w v => vI s2 = v, fun ρ w v => .pointer (some (ad20.add (s2.toNat * 1))) = v, fun ρ w v => u20 = v, fun ρ w v => vI s10 = v, fun ρ w v => .pointer (some (ad22.add (s10.toNat * 1))) = v, fun ρ w v => vI (gl 0 (gl [] a1 s2) s10) = v, fun ρ w v => va2 = v, fun ρ w v => vI s10 = v, fun ρ w v => .pointer (some (ad24.add (s10.toNat * 1))) = v, fun ρ w v => u24 = v, fun ρ w v => vI s14 = v, fun ρ w v => .pointer (some (ad26.add (s14.toNat * 1))) = v, fun ρ w v => vI (gl 0 (gl [] a2 s10) s14) = v, fun ρ w v => vI (w64 ((gl 0 (gl [] a1 s2) s10) * (gl 0 (gl [] a2 s10) s14))) = v, fun ρ w v => vI (w64 ((gl 0 s15 s14) + (w64 ((gl 0 (gl [] a1 s2) s10) * (gl 0 (gl [] a2 s10) s14))))) = v, fun ρ w v => vI a0 = v, fun ρ w v => vI ((w64 ((gl 0 s15 s14) + (w64 ((gl 0 (gl [] a1 s2) s10) * (gl 0 (gl [] a2 s10) s14))))).tmod a0) = v] ?_ hw ⟨o2, o3⟩ hf ?_ ?_
        · intro ρ w ρ' w' hE hG
          obtain ⟨o2, o3⟩ := hG
          exact ⟨o2.ext hE, o3.ext hE⟩
        · exact LastsL.cons (fun _ _ _ _ _ _ h => h) <| LastsL.cons (fun _ _ _ _ _ _ h => h) <| LastsL.cons (fun _ _ _ _ _ _ h => h) <| LastsL.cons (fun _ _ _ _ _ _ h => h) <| LastsL.cons (fun _ _ _ _ _ hE h => by obtain ⟨ad18, h, hl18⟩ := h; exact ⟨_, h, hl18.ext hE⟩) <| LastsL.cons (fun _ _ _ _ _ _ h => h) <| LastsL.cons (fun _ _ _ _ _ _ h => h) <| LastsL.cons (fun _ _ _ _ _ _ h => h) <| LastsL.cons (fun _ _ _ _ _ _ h => h) <| LastsL.cons (fun _ _ _ _ _ _ h => h) <| LastsL.cons (fun _ _ _ _ _ _ h => h) <| LastsL.cons (fun _ _ _ _ _ _ h => h) <| LastsL.cons (fun _ _ _ _ _ _ h => h) <| LastsL.cons (fun _ _ _ _ _ _ h => h) <| LastsL.cons (fun _ _ _ _ _ _ h => h) <| LastsL.cons (fun _ _ _ _ _ _ h => h) <| LastsL.cons (fun _ _ _ _ _ _ h => h) <| LastsL.cons (fun _ _ _ _ _ _ h => h) <| LastsL.cons (fun _ _ _ _ _ _ h => h) <| LastsL.cons (fun _ _ _ _ _ _ h => h) <| LastsL.cons (fun _ _ _ _ _ _ h => h) <| LastsL.cons (fun _ _ _ _ _ _ h => h) <| LastsL.cons (fun _ _ _ _ _ _ h => h) <| LastsL.cons (fun _ _ _ _ _ _ h => h) <| LastsL.nil
        · refine StepsB.cons ?_ <| StepsB.cons ?_ <| StepsB.cons ?_ <| StepsB.cons ?_ <| StepsB.cons ?_ <| StepsB.cons ?_ <| StepsB.cons ?_ <| StepsB.cons ?_ <| StepsB.cons ?_ <| StepsB.cons ?_ <| StepsB.cons ?_ <| StepsB.cons ?_ <| StepsB.cons ?_ <| StepsB.cons ?_ <| StepsB.cons ?_ <| StepsB.cons ?_ <| StepsB.cons ?_ <| StepsB.cons ?_ <| StepsB.cons ?_ <| StepsB.cons ?_ <| StepsB.cons ?_ <| StepsB.cons ?_ <| StepsB.cons ?_ <| StepsB.cons ?_ <| StepsB.nil
          · intro ρ w a hw hG hf hd K hK
            obtain ⟨o2, o3⟩ := hG
            exact dv_ hK hw (wn rfl) (r_move hf rfl) rfl
          · intro ρ w a hw hG hf hd K hK
            obtain ⟨o2, o3⟩ := hG
            exact dv_ hK hw (wn rfl) (r_move hf rfl) rfl
          · intro ρ w a hw hG hf hd K hK
            obtain ⟨o2, o3⟩ := hG
            exact dv_ hK hw (wn rfl) (r_move hf rfl) rfl
          · intro ρ w a hw hG hf hd K hK
            obtain ⟨o2, o3⟩ := hG
            exact dv_ hK hw (wn rfl) (r_move hf rfl) rfl
          · intro ρ w a hw hG hf hd K hK
            obtain ⟨o2, o3⟩ := hG
            obtain ⟨_, hf, rfl⟩ := got (hd 2 (by kernel_rfl)) hf
            obtain ⟨_, hf, rfl⟩ := got (hd 3 (by kernel_rfl)) hf
            obtain ⟨ad18, hl18⟩ := Ow.ce (d := fI64) o3 0 hc17.1 hc17.2
            exact dv_ hK hw (wn rfl) (r_idx Try.underlying36 sz2 hf rfl hl18.at_ rfl hc17.1 hc17.2) (ex_ <| an_ rfl <| hl18)
          · intro ρ w a hw hG hf hd K hK
            obtain ⟨o2, o3⟩ := hG
            obtain ⟨_, hf, ⟨ad18, rfl, hl18⟩⟩ := got (hd 4 (by kernel_rfl)) hf
            exact dv_ hK hw (wn rfl) (r_load_cell ty2 hf rfl hl18.co.cl) rfl
          · intro ρ w a hw hG hf hd K hK
            obtain ⟨o2, o3⟩ := hG
            exact dv_ hK hw (wn rfl) (r_move hf rfl) rfl
          · intro ρ w a hw hG hf hd K hK
            obtain ⟨o2, o3⟩ := hG
            exact dv_ hK hw (wn rfl) (r_move hf rfl) rfl
          · intro ρ w a hw hG hf hd K hK
            obtain ⟨o2, o3⟩ := hG
            obtain ⟨_, hf, rfl⟩ := got (hd 6 (by kernel_rfl)) hf
            obtain ⟨_, hf, rfl⟩ := got (hd 7 (by kernel_rfl)) hf
            exact dv_ hK hw (wn rfl) (r_idx Try.underlying24 sz36 hf rfl ⟨_, he20⟩ rfl hc19.1 hc19.2) rfl
          · intro ρ w a hw hG hf hd K hK
            obtain ⟨o2, o3⟩ := hG
            obtain ⟨_, hf, rfl⟩ := got (hd 8 (by kernel_rfl)) hf
            exact dv_ hK hw (wn rfl) (r_load_cell ty36 hf rfl (hl20.below hw.below)) rfl
          · intro ρ w a hw hG hf hd K hK
            obtain ⟨o2, o3⟩ := hG
            exact dv_ hK hw (wn rfl) (r_move hf rfl) rfl
          · intro ρ w a hw hG hf hd K hK
            obtain ⟨o2, o3⟩ := hG
            obtain ⟨_, hf, rfl⟩ := got (hd 9 (by kernel_rfl)) hf
            obtain ⟨_, hf, rfl⟩ := got (hd 10 (by kernel_rfl)) hf
            exact dv_ hK hw (wn rfl) (r_idx Try.underlying36 sz2 hf rfl ⟨_, he22⟩ rfl hc21.1 hc21.2) rfl
          · intro ρ w a hw hG hf hd K hK
            obtain ⟨o2, o3⟩ := hG
            obtain ⟨_, hf, rfl⟩ := got (hd 11 (by kernel_rfl)) hf
            exact dv_ hK hw (wn rfl) (r_load_cell ty2 hf rfl (hl22.below hw.below)) rfl
          · intro ρ w a hw hG hf hd K hK
            obtain ⟨o2, o3⟩ := hG
            exact dv_ hK hw (wn rfl) (r_move hf rfl) rfl
          · intro ρ w a hw hG hf hd K hK
            obtain ⟨o2, o3⟩ := hG
            exact dv_ hK hw (wn rfl) (r_move hf rfl) rfl
          · intro ρ w a hw hG hf hd K hK
            obtain ⟨o2, o3⟩ := hG
            obtain ⟨_, hf, rfl⟩ := got (hd 13 (by kernel_rfl)) hf
            obtain ⟨_, hf, rfl⟩ := got (hd 14 (by kernel_rfl)) hf
            exact dv_ hK hw (wn rfl) (r_idx Try.underlying24 sz36 hf rfl ⟨_, he24⟩ rfl hc23.1 hc23.2) rfl
          · intro ρ w a hw hG hf hd K hK
            obtain ⟨o2, o3⟩ := hG
            obtain ⟨_, hf, rfl⟩ := got (hd 15 (by kernel_rfl)) hf
            exact dv_ hK hw (wn rfl) (r_load_cell ty36 hf rfl (hl24.below hw.below)) rfl
          · intro ρ w a hw hG hf hd K hK
            obtain ⟨o2, o3⟩ := hG
            exact dv_ hK hw (wn rfl) (r_move hf rfl) rfl
          · intro ρ w a hw hG hf hd K hK
            obtain ⟨o2, o3⟩ := hG
            obtain ⟨_, hf, rfl⟩ := got (hd 16 (by kernel_rfl)) hf
            obtain ⟨_, hf, rfl⟩ := got (hd 17 (by kernel_rfl)) hf
            exact dv_ hK hw (wn rfl) (r_idx Try.underlying36 sz2 hf rfl ⟨_, he26⟩ rfl hc25.1 hc25.2) rfl
          · intro ρ w a hw hG hf hd K hK
            obtain ⟨o2, o3⟩ := hG
            obtain ⟨_, hf, rfl⟩ := got (hd 18 (by kernel_rfl)) hf
            exact dv_ hK hw (wn rfl) (r_load_cell ty2 hf rfl (hl26.below hw.below)) rfl
          · intro ρ w a hw hG hf hd K hK
            obtain ⟨o2, o3⟩ := hG
            obtain ⟨_, hf, rfl⟩ := got (hd 12 (by kernel_rfl)) hf
            obtain ⟨_, hf, rfl⟩ := got (hd 19 (by kernel_rfl)) hf
            exact dv_ hK hw (wn rfl) (r_mul hf rfl rfl) rfl
          · intro ρ w a hw hG hf hd K hK
            obtain ⟨o2, o3⟩ := hG
            obtain ⟨_, hf, rfl⟩ := got (hd 5 (by kernel_rfl)) hf
            obtain ⟨_, hf, rfl⟩ := got (hd 20 (by kernel_rfl)) hf
            exact dv_ hK hw (wn rfl) (r_add hf rfl rfl) rfl
          · intro ρ w a hw hG hf hd K hK
            obtain ⟨o2, o3⟩ := hG
            exact dv_ hK hw (wn rfl) (r_move hf rfl) rfl
          · intro ρ w a hw hG hf hd K hK
            obtain ⟨o2, o3⟩ := hG
            obtain ⟨_, hf, rfl⟩ := got (hd 21 (by kernel_rfl)) hf
            obtain ⟨_, hf, rfl⟩ := got (hd 22 (by kernel_rfl)) hf
            exact dv_ hK hw (wn rfl) (r_rem hf rfl rfl hc27) rfl
        intro ρ w a hw hG hf hd
        obtain ⟨o2, o3⟩ := hG
        obtain ⟨_, hf, rfl⟩ := got (hd 0 (by decide)) hf
        obtain ⟨_, hf, rfl⟩ := got (hd 1 (by decide)) hf
        obtain ⟨_, hf, rfl⟩ := got (hd 23 (by decide)) hf
        obtain ⟨ad28, hl28⟩ := Ow.ce (d := fI64) o3 0 hc17.1 hc17.2
        refine s_ hf (r_idx Try.underlying36 sz2 hf rfl hl28.at_ rfl hc17.1 hc17.2) fun a hf => ?_
        refine sk_ hf (r_store_ec (b := (w64 ((gl 0 s15 s14) + (w64 ((gl 0 (gl [] a1 s2) s10) * (gl 0 (gl [] a2 s10) s14))))).tmod a0) 0 hw (by decide) o3 hc17.1 hc17.2 (Lens.id _) hl28.at_ ty2 (by first | rfl | exact Nat.add_assoc _ _ _ | (simp only [Nat.add_assoc]; rfl)) hf rfl rfl rfl) fun a w hf hΦ => ?_
        obtain ⟨hw, hA, o3⟩ := hΦ
        replace o2 := o2.adv hA (by decide)
        refine c_nil <| n_block <| n_then <| c_region ?_
        refine s_ hf (r_move hf rfl) fun a hf => ?_
        refine s_ hf (r_add hf rfl rfl) fun a hf => ?_
        refine s_ hf (r_assign hf rfl) fun a hf => ?_
        refine c_nil ?_
        obtain rfl := Option.some.inj hF
        exact Rnd.goes ⟨_, hw, hf.sub ⟨rfl, rfl, rfl, rfl, rfl, rfl, rfl, rfl, trivial⟩, o2, o3⟩
      rintro ⟨s14, s15⟩ a w hs ⟨ρ, hw, hf, o2, o3⟩
      subst hs
      have hF := hG13
      dsimp only at hF
      refine x_block <| n_block <| n_then <| c_region ?_
      refine s_ hf (r_move hf rfl) fun a hf => ?_
      refine s_ hf (r_add hf rfl rfl) fun a hf => ?_
      refine s_ hf (r_assign hf rfl) fun a hf => ?_
      refine c_nil ?_
      obtain rfl := Option.some.inj hF
      exact Rnd.goes ⟨_, hw, hf.sub ⟨rfl, rfl, rfl, rfl, rfl, rfl, rfl, trivial⟩, o2, o3⟩
    rintro ⟨s10, s11⟩ a w hs ⟨ρ, hw, hf, o2, o3⟩
    subst hs
    have hF := hG9
    dsimp only at hF
    refine x_block <| n_then <| c_region ?_
    refine s_ hf (r_move hf rfl) fun a hf => ?_
    refine s_ hf (r_move hf rfl) fun a hf => ?_
    refine sx_ hf (r_lit_row 6 Try.underlying24 el36 hw (by decide) hf rfl o3) fun a v6 w hf hΦ => ?_
    obtain ⟨ρ, hw, hT, hB, o6⟩ := hΦ
    replace o2 := o2.tr (hT 2 (by decide))
    obtain ⟨hc29, hF⟩ := of_guard hF
    refine sx_ hf (r_append_own Try.underlying24 el36 hw (by decide) (by decide) (by decide) o2 o6 hc29 hf rfl rfl) fun a va30 w hf hΦ => ?_
    obtain ⟨ρ, hw, hT, o2⟩ := hΦ
    refine s_ hf (r_assign hf rfl) fun a hf => ?_
    refine c_nil <| n_block <| n_then <| c_region ?_
    refine s_ hf (r_move hf rfl) fun a hf => ?_
    refine s_ hf (r_add hf rfl rfl) fun a hf => ?_
    refine s_ hf (r_assign hf rfl) fun a hf => ?_
    refine c_nil ?_
    obtain rfl := Option.some.inj hF
    exact Rnd.goes ⟨_, _, hw, hf.sub ⟨rfl, rfl, rfl, rfl, rfl, trivial⟩, o2⟩
  rintro ⟨s2, s3⟩ a w hs ⟨ρ, vv4, hw, hf, o2⟩
  subst hs
  have hF := hG1
  dsimp only at hF
  refine x_block <| n_then <| c_seq <| c_region ?_
  refine s_ hf (r_move hf rfl) fun a hf => ?_
  refine s_ hf (r_assign hf rfl) fun a hf => ?_
  refine c_nt <| c_retc ?_
  obtain rfl := Option.some.inj hF
  refine c_ret hf (res_tmp Try.results179 hf rfl) ?_
  exact ⟨_, rfl, hw.below, ⟨_, rfl, o2.out⟩⟩
/-! f136 -/
noncomputable def spec_l01Empty (a0 : Sch) : Option Sch :=
  some ((⟨a0.p, a0.n, a0.m, a0.k, ([] : List Prod)⟩ : Sch))
theorem spec_l01Empty_ok {w0 : World} {a0 : Sch} {va0 : Value} (h0 : Ro (kf cProd) w0 va0 a0.ps) {r : Sch} (hF : spec_l01Empty a0 = some r) :
    Calls Try.prog 136 [.agg ([vI a0.p, vI a0.n, vI a0.m, vI a0.k, va0]).toArray].toArray w0 fun e w => ∃ v, e = .returned v ∧ Below w0.heap.size w0 w ∧ ∃ u0, .agg [.int .i64 r.p, .int .i64 r.n, .int .i64 r.m, .int .i64 r.k, u0].toArray = v ∧ Fresh (kf cProd) 82 w0 w u0 r.ps := by
  refine calls_of (k := 13) Try.func136 rfl rfl (Nat.le_of_ble_eq_true rfl) fun a hf => ?_
  replace hf : Fr 13 a [(0, .agg ([vI a0.p, vI a0.n, vI a0.m, vI a0.k, va0]).toArray)] := hf
  refine c_start fun w ρ hw => ?_
  unfold spec_l01Empty at hF
  refine c_seq <| c_region ?_
  refine sx_ hf (r_box (cs := [vI a0.p, vI a0.n, vI a0.m, vI a0.k, va0]) 1 hw hf rfl rfl) fun a v w hf hΦ => ?_
  obtain ⟨g1, ρ, rfl, hw, hE, o1⟩ := hΦ
  have o3 : Ow (kf cProd) 82 ρ w w0.heap.size 3 (.slice none 0 0) [] := Ow.nil _ _ _ _ _ _
  refine sx_ hf (r_alloc (cs := [vI 0, vI 0, vI 0, vI 0, (.slice none 0 0)]) 2 ze39 rfl hw) fun a v w hf hΦ => ?_
  obtain ⟨g2, ρ, rfl, hw, hE, o2⟩ := hΦ
  replace o1 := o1.ext hE
  replace o3 := o3.ext hE
  refine c_nt <| c_seq <| c_region ?_
  refine s_ hf (r_fa fa39_0 hf rfl) fun a hf => ?_
  refine s_ hf (r_load_cell ty2 hf rfl (o1.cl.at_ 0 _ rfl)) fun a hf => ?_
  refine s_ hf (r_fa fa39_1 hf rfl) fun a hf => ?_
  refine s_ hf (r_load_cell ty2 hf rfl (o1.cl.at_ 1 _ rfl)) fun a hf => ?_
  refine s_ hf (r_fa fa39_2 hf rfl) fun a hf => ?_
  refine s_ hf (r_load_cell ty2 hf rfl (o1.cl.at_ 2 _ rfl)) fun a hf => ?_
  refine s_ hf (r_fa fa39_3 hf rfl) fun a hf => ?_
  refine s_ hf (r_load_cell ty2 hf rfl (o1.cl.at_ 3 _ rfl)) fun a hf => ?_
  refine sx_ hf (r_lit (d := cProd) (xs := ([] : List Prod)) (vs := []) 4 Try.underlying37 el82 (Nat.le_of_ble_eq_true rfl) (Nat.le_of_ble_eq_true rfl) hw hf rfl rfl rfl) fun a v4 w hf hΦ => ?_
  obtain ⟨ρ, hw, hE, o4⟩ := hΦ
  replace o1 := o1.ext hE
  replace o3 := o3.ext hE
  replace o2 := o2.ext hE
  refine s_ hf (r_build_struct (pl := [(0, 1), (1, 1), (2, 1), (3, 1), (4, 1)]) (vs := [(0, vI a0.p), (1, vI a0.n), (2, vI a0.m), (3, vI a0.k), (4, v4)]) (res := ([vI a0.p, vI a0.n, vI a0.m, vI a0.k, v4]).toArray) Try.underlying39 (by kernel_rfl) ze39 hf rfl rfl ((fill_step (off := 0) (sz := 1) (cs := [.int .i64 0, .int .i64 0, .int .i64 0, .int .i64 0, .slice none 0 0]) rfl rfl rfl (Nat.le_of_ble_eq_true rfl)).trans ((fill_step (off := 1) (sz := 1) (cs := [vI a0.p, .int .i64 0, .int .i64 0, .int .i64 0, .slice none 0 0]) rfl rfl rfl (Nat.le_of_ble_eq_true rfl)).trans ((fill_step (off := 2) (sz := 1) (cs := [vI a0.p, vI a0.n, .int .i64 0, .int .i64 0, .slice none 0 0]) rfl rfl rfl (Nat.le_of_ble_eq_true rfl)).trans ((fill_step (off := 3) (sz := 1) (cs := [vI a0.p, vI a0.n, vI a0.m, .int .i64 0, .slice none 0 0]) rfl rfl rfl (Nat.le_of_ble_eq_true rfl)).trans ((fill_step (off := 4) (sz := 1) (cs := [vI a0.p, vI a0.n, vI a0.m, vI a0.k, .slice none 0 0]) rfl o4.ro.cells1 rfl (Nat.le_of_ble_eq_true rfl)).trans rfl)))))) fun a hf => ?_
  refine sk_ hf (r_store_w (cs' := [vI a0.p, vI a0.n, vI a0.m, vI a0.k, v4]) hw o2 (by decide) ty39 rfl rfl (one_sch o4.ro.one) hf rfl rfl rfl) fun a w hf hΦ => ?_
  obtain ⟨hw, hA, o2⟩ := hΦ
  replace o1 := o1.adv hA (by decide)
  replace o3 := o3.adv hA (by decide)
  replace o4 := o4.adv hA (by decide)
  refine c_nt <| c_retc ?_
  obtain rfl := Option.some.inj hF
  refine c_ret hf (res_cell Try.results136 ty39 hf rfl o2.cl rfl) ?_
  exact ⟨_, rfl, hw.below, ⟨_, rfl, o4.out⟩⟩
/-! f137 -/
noncomputable def spec_l04Both (a0 : Int) (a1 : List (List Int)) (a2 : Form) (a3 : List (List Int)) : Option Form :=
  (spec_l04Rows a2 (a1.length : Int) (a3.length : Int)).bind fun x1 => (spec_l01Plain a0 a1 x1).bind fun x5 => (spec_l01Plain a0 x5 a3).bind fun x9 => (spec_l04Form x9).bind fun x13 => some (x13)
theorem spec_l04Both_ok {w0 : World} {a0 : Int} {a1 : List (List Int)} {a2 : Form} {a3 : List (List Int)} {va1 : Value} {va3 : Value} (h1 : Ro (Kd.slice 2 (kf fI64)) w0 va1 a1) (h3 : Ro (Kd.slice 2 (kf fI64)) w0 va3 a3) {r : Form} (hF : spec_l04Both a0 a1 a2 a3 = some r) :
    Calls Try.prog 137 [vI a0, va1, .agg (cForm.enc a2).toArray, va3].toArray w0 fun e w => ∃ v, e = .returned v ∧ Below w0.heap.size w0 w ∧ .agg (cForm.enc r).toArray = v := by
  refine calls_of (k := 24) Try.func137 rfl rfl (Nat.le_of_ble_eq_true rfl) fun a hf => ?_
  replace hf : Fr 24 a [(0, vI a0), (1, va1), (2, .agg (cForm.enc a2).toArray), (3, va3)] := hf
  refine c_start fun w ρ hw => ?_
  unfold spec_l04Both at hF
  refine c_seq <| c_region ?_
  refine sx_ hf (r_box (cs := cForm.enc a2) 1 hw hf rfl rfl) fun a v w hf hΦ => ?_
  obtain ⟨g1, ρ, rfl, hw, hE, o1⟩ := hΦ
  refine sx_ hf (r_alloc (cs := cForm.enc zForm) 2 ze80 rfl hw) fun a v w hf hΦ => ?_
  obtain ⟨g2, ρ, rfl, hw, hE, o2⟩ := hΦ
  replace o1 := o1.ext hE
  refine c_nt <| c_seq <| c_region ?_
  refine s_ hf (r_load_agg ty80 hf rfl o1.cl (cForm.len _)) fun a hf => ?_
  refine s_ hf (r_move hf rfl) fun a hf => ?_
  refine s_ hf (r_len Try.underlying24 (h1.now hw) hf rfl) fun a hf => ?_
  refine s_ hf (r_move hf rfl) fun a hf => ?_
  refine s_ hf (r_len Try.underlying24 (h3.now hw) hf rfl) fun a hf => ?_
  obtain ⟨x1, hx2, hF⟩ := of_bind hF
  refine st_fn 3 hw hf rfl rfl (by decide) (r_fn en177 hf rfl) (spec_l04Rows_ok  hx2) fun a v w ρ hf hw hE hN hΦ => ?_
  obtain ⟨u3, rfl, hr4⟩ := hΦ
  replace o1 := o1.ext hE
  replace o2 := o2.ext hE
  have o3 := hN hr4
  refine s_ hf (r_assign hf rfl) fun a hf => ?_
  refine c_nt <| c_seq <| c_region ?_
  refine s_ hf (r_move hf rfl) fun a hf => ?_
  refine s_ hf (r_move hf rfl) fun a hf => ?_
  refine s_ hf (r_move hf rfl) fun a hf => ?_
  refine s_ hf (r_move hf rfl) fun a hf => ?_
  obtain ⟨x5, hx6, hF⟩ := of_bind hF
  refine st_fn 4 hw hf rfl rfl (by decide) (r_fn en179 hf rfl) (spec_l01Plain_ok (h1.now hw) o3.ro hx6) fun a v w ρ hf hw hE hN hΦ => ?_
  obtain ⟨u7, rfl, hr8⟩ := hΦ
  replace o1 := o1.ext hE
  replace o2 := o2.ext hE
  replace o3 := o3.ext hE
  have o4 := hN hr8
  refine s_ hf (r_move hf rfl) fun a hf => ?_
  obtain ⟨x9, hx10, hF⟩ := of_bind hF
  refine st_fn 5 hw hf rfl rfl (by decide) (r_fn en179 hf rfl) (spec_l01Plain_ok o4.ro (h3.now hw) hx10) fun a v w ρ hf hw hE hN hΦ => ?_
  obtain ⟨u11, rfl, hr12⟩ := hΦ
  replace o1 := o1.ext hE
  replace o2 := o2.ext hE
  replace o3 := o3.ext hE
  replace o4 := o4.ext hE
  have o5 := hN hr12
  obtain ⟨x13, hx14, hF⟩ := of_bind hF
  refine st_fn 6 hw hf rfl rfl (by decide) (r_fn en178 hf rfl) (spec_l04Form_ok o5.ro hx14) fun a v w ρ hf hw hE hN hΦ => ?_
  obtain rfl := hΦ
  replace o1 := o1.ext hE
  replace o2 := o2.ext hE
  replace o3 := o3.ext hE
  replace o4 := o4.ext hE
  replace o5 := o5.ext hE
  refine sk_ hf (r_store_w (cs' := cForm.enc x13) hw o2 (by decide) ty80 (cForm.len _) (cForm.len _) (cForm.one _) hf rfl rfl rfl) fun a w hf hΦ => ?_
  obtain ⟨hw, hA, o2⟩ := hΦ
  replace o1 := o1.adv hA (by decide)
  replace o3 := o3.adv hA (by decide)
  replace o4 := o4.adv hA (by decide)
  replace o5 := o5.adv hA (by decide)
  refine c_nt <| c_retc ?_
  obtain rfl := Option.some.inj hF
  refine c_ret hf (res_cell Try.results137 ty80 hf rfl o2.cl (cForm.len _)) ?_
  exact ⟨_, rfl, hw.below, rfl⟩
/-! f94 -/
noncomputable def spec_l04Change_l5 (a0 : Sch) (a1 : ((List (List Int)) × (List (List Int)) × (List (List Int)))) (a2 : ((List (List Int)) × (List (List Int)) × (List (List Int)))) (s6 : Int) (s7 : List Prod) : Option (LR (Int × (List Prod)) Sch) :=
  if (decide (s6 < (a0.ps.length : Int))) = true then (if 0 ≤ s6 ∧ s6 < (a0.ps.length : Int) then ((spec_l04Flip a1.1).bind fun x12 => (spec_l04Flip a2.2.1).bind fun x16 => (spec_l04Both a0.p x12 ((gl zProd a0.ps s6).1) x16).bind fun x20 => (spec_l04Flip a1.2.1).bind fun x22 => (spec_l04Flip a2.2.2).bind fun x26 => (spec_l04Both a0.p x22 ((gl zProd a0.ps s6).2.1) x26).bind fun x30 => (spec_l04Both a0.p a2.1 ((gl zProd a0.ps s6).2.2) a1.2.2).bind fun x32 => if (s7.length + ([(x20, x30, x32)]).length) * 27 ≤ 140737488355328 then (some (.next (w64 (s6 + 1), (s7 ++ [(x20, x30, x32)])))) else none) else none) else (some (.stop (s6, s7)))
noncomputable def spec_l04Change (a0 : Sch) (a1 : ((List (List Int)) × (List (List Int)) × (List (List Int)))) (a2 : ((List (List Int)) × (List (List Int)) × (List (List Int)))) : Option Sch :=
  (spec_l01Empty a0).bind fun x1 => (iter (fun s => spec_l04Change_l5 a0 a1 a2 s.1 s.2) (0, x1.ps)).bind fun o => match o with | .stop (s6, s7) => (some ((⟨x1.p, x1.n, x1.m, x1.k, s7⟩ : Sch))) | .ret r => some r | .next _ => none
theorem spec_l04Change_ok {w0 : World} {a0 : Sch} {a1 : ((List (List Int)) × (List (List Int)) × (List (List Int)))} {a2 : ((List (List Int)) × (List (List Int)) × (List (List Int)))} {va0 : Value} {va1_0 : Value} {va1_1 : Value} {va1_2 : Value} {va2_0 : Value} {va2_1 : Value} {va2_2 : Value} (h0 : Ro (kf cProd) w0 va0 a0.ps) (h1_0 : Ro (Kd.slice 2 (kf fI64)) w0 va1_0 a1.1) (h1_1 : Ro (Kd.slice 2 (kf fI64)) w0 va1_1 a1.2.1) (h1_2 : Ro (Kd.slice 2 (kf fI64)) w0 va1_2 a1.2.2) (h2_0 : Ro (Kd.slice 2 (kf fI64)) w0 va2_0 a2.1) (h2_1 : Ro (Kd.slice 2 (kf fI64)) w0 va2_1 a2.2.1) (h2_2 : Ro (Kd.slice 2 (kf fI64)) w0 va2_2 a2.2.2) {r : Sch} (hF : spec_l04Change a0 a1 a2 = some r) :
    Calls Try.prog 94 [.agg ([vI a0.p, vI a0.n, vI a0.m, vI a0.k, va0]).toArray, .agg ([va1_0, va1_1, va1_2]).toArray, .agg ([va2_0, va2_1, va2_2]).toArray].toArray w0 fun e w => ∃ v, e = .returned v ∧ Below w0.heap.size w0 w ∧ ∃ u0, .agg [.int .i64 r.p, .int .i64 r.n, .int .i64 r.m, .int .i64 r.k, u0].toArray = v ∧ Fresh (kf cProd) 82 w0 w u0 r.ps := by
  refine calls_of (k := 62) Try.func94 rfl rfl (Nat.le_of_ble_eq_true rfl) fun a hf => ?_
  replace hf : Fr 62 a [(0, .agg ([vI a0.p, vI a0.n, vI a0.m, vI a0.k, va0]).toArray), (1, .agg ([va1_0, va1_1, va1_2]).toArray), (2, .agg ([va2_0, va2_1, va2_2]).toArray)] := hf
  refine c_start fun w ρ hw => ?_
  unfold spec_l04Change at hF
  refine c_seq <| c_region ?_
  refine sx_ hf (r_box (cs := [vI a0.p, vI a0.n, vI a0.m, vI a0.k, va0]) 1 hw hf rfl rfl) fun a v w hf hΦ => ?_
  obtain ⟨g1, ρ, rfl, hw, hE, o1⟩ := hΦ
  refine sx_ hf (r_box (cs := [va1_0, va1_1, va1_2]) 2 hw hf rfl rfl) fun a v w hf hΦ => ?_
  obtain ⟨g2, ρ, rfl, hw, hE, o2⟩ := hΦ
  replace o1 := o1.ext hE
  refine sx_ hf (r_box (cs := [va2_0, va2_1, va2_2]) 3 hw hf rfl rfl) fun a v w hf hΦ => ?_
  obtain ⟨g3, ρ, rfl, hw, hE, o3⟩ := hΦ
  replace o1 := o1.ext hE
  replace o2 := o2.ext hE
  have o5 : Ow (kf cProd) 82 ρ w w0.heap.size 5 (.slice none 0 0) [] := Ow.nil _ _ _ _ _ _
  refine sx_ hf (r_alloc (cs := [vI 0, vI 0, vI 0, vI 0, (.slice none 0 0)]) 4 ze39 rfl hw) fun a v w hf hΦ => ?_
  obtain ⟨g4, ρ, rfl, hw, hE, o4⟩ := hΦ
  replace o1 := o1.ext hE
  replace o2 := o2.ext hE
  replace o3 := o3.ext hE
  replace o5 := o5.ext hE
  refine c_nt <| c_seq <| c_region ?_
  refine s_ hf (r_load_agg ty39 hf rfl o1.cl rfl) fun a hf => ?_
  obtain ⟨x1, hx2, hF⟩ := of_bind hF
  refine st_fn 6 hw hf rfl rfl (by decide) (r_fn en136 hf rfl) (spec_l01Empty_ok (a0 := a0) (h0.now hw) hx2) fun a v w ρ hf hw hE hN hΦ => ?_
  obtain ⟨u3, rfl, hr4⟩ := hΦ
  replace o1 := o1.ext hE
  replace o2 := o2.ext hE
  replace o3 := o3.ext hE
  replace o5 := o5.ext hE
  replace o4 := o4.ext hE
  have o6 := hN hr4
  have o8 : Ow (kf cProd) 82 ρ w w0.heap.size 8 (.slice none 0 0) [] := Ow.nil _ _ _ _ _ _
  refine sx_ hf (r_alloc (cs := [vI 0, vI 0, vI 0, vI 0, (.slice none 0 0)]) 7 ze39 rfl hw) fun a v w hf hΦ => ?_
  obtain ⟨g7, ρ, rfl, hw, hE, o7⟩ := hΦ
  replace o1 := o1.ext hE
  replace o2 := o2.ext hE
  replace o3 := o3.ext hE
  replace o5 := o5.ext hE
  replace o4 := o4.ext hE
  replace o6 := o6.ext hE
  replace o8 := o8.ext hE
  refine sk_ hf (r_store_w (cs' := [vI x1.p, vI x1.n, vI x1.m, vI x1.k, u3]) hw o7 (by decide) ty39 rfl rfl (one_sch o6.ro.one) hf rfl rfl rfl) fun a w hf hΦ => ?_
  obtain ⟨hw, hA, o7⟩ := hΦ
  replace o1 := o1.adv hA (by decide)
  replace o2 := o2.adv hA (by decide)
  replace o3 := o3.adv hA (by decide)
  replace o5 := o5.adv hA (by decide)
  replace o4 := o4.adv hA (by decide)
  replace o6 := o6.adv hA (by decide)
  replace o8 := o8.adv hA (by decide)
  refine c_nt <| c_seq <| c_seq <| c_region ?_
  refine s_ hf (r_assign hf rfl) fun a hf => ?_
  refine c_nt ?_
  obtain ⟨ol5, ho5, hG5⟩ := of_bind hF
  clear hF
  refine c_block (c_loop (id := 0) (fun s => spec_l04Change_l5 a0 a1 a2 s.1 s.2) (fun (s : Int × (List Prod)) a w => match s with | (s6, s7) => ∃ ρ vv8, Wd w0 ρ w ∧ Fr 62 a [(3, .pointer (some ((⟨g1, 0, none⟩ : Addr).add 0))), (4, .pointer (some ((⟨g2, 0, none⟩ : Addr).add 0))), (5, .pointer (some ((⟨g3, 0, none⟩ : Addr).add 0))), (6, .pointer (some ((⟨g4, 0, none⟩ : Addr).add 0))), (7, .pointer (some ((⟨g7, 0, none⟩ : Addr).add 0))), (8, vI s6)] ∧ Va ρ w 1 g1 39 ([vI a0.p, vI a0.n, vI a0.m, vI a0.k, va0]) ∧ Va ρ w 2 g2 97 ([va1_0, va1_1, va1_2]) ∧ Va ρ w 3 g3 97 ([va2_0, va2_1, va2_2]) ∧ Va ρ w 4 g4 39 ([vI 0, vI 0, vI 0, vI 0, (.slice none 0 0)]) ∧ O82 ρ w w0 5 (.slice none 0 0) ([] : List Prod) ∧ O82 ρ w w0 6 vv8 s7 ∧ Va ρ w 7 g7 39 ([vI x1.p, vI x1.n, vI x1.m, vI x1.k, vv8])) (fun (s : Int × (List Prod)) a w => match s with | (s6, s7) => ∃ ρ vv8, Wd w0 ρ w ∧ Fr 62 a [(6, .pointer (some ((⟨g4, 0, none⟩ : Addr).add 0))), (7, .pointer (some ((⟨g7, 0, none⟩ : Addr).add 0)))] ∧ Va ρ w 4 g4 39 ([vI 0, vI 0, vI 0, vI 0, (.slice none 0 0)]) ∧ O82 ρ w w0 5 (.slice none 0 0) ([] : List Prod) ∧ O82 ρ w w0 6 vv8 s7 ∧ Va ρ w 7 g7 39 ([vI x1.p, vI x1.n, vI x1.m, vI x1.k, vv8])) ho5 ⟨_, _, hw, hf.sub ⟨rfl, rfl, rfl, rfl, rfl, rfl, trivial⟩, o1, o2, o3, o4, o5, o6, o7⟩ ?_ ?_)
  · rintro ⟨s6, s7⟩ lr a w ⟨ρ, vv8, hw, hf, o1, o2, o3, o4, o5, o6, o7⟩ hF
    replace hF : spec_l04Change_l5 a0 a1 a2 s6 s7 = some lr := hF
    unfold spec_l04Change_l5 at hF
    refine c_seq <| c_seq <| c_region ?_
    refine s_ hf (r_move hf rfl) fun a hf => ?_
    refine s_ hf (r_fa fa39_4 hf rfl) fun a hf => ?_
    refine s_ hf (r_load_cell ty37 hf rfl (o1.cl.at_ 4 _ rfl)) fun a hf => ?_
    refine s_ hf (r_len Try.underlying37 (h0.now hw) hf rfl) fun a hf => ?_
    refine s_ hf (r_lss hf rfl rfl) fun a hf => ?_
    refine c_nt ?_
    rcases of_ite hF with ⟨hb9, hF⟩ | ⟨hb9, hF⟩
    rotate_left
    · refine c_iff hf rfl hb9 <| c_exit <| x_then ?_
      obtain rfl := Option.some.inj hF
      exact Rnd.stops ⟨_, _, hw, hf.sub ⟨rfl, rfl, trivial⟩, o4, o5, o6, o7⟩
    refine c_ift hf rfl hb9 <| c_skip <| n_then <| c_seq <| c_block <| c_seq <| c_region ?_
    refine s_ hf (r_fa fa39_4 hf rfl) fun a hf => ?_
    refine s_ hf (r_load_cell ty37 hf rfl (o1.cl.at_ 4 _ rfl)) fun a hf => ?_
    refine s_ hf (r_move hf rfl) fun a hf => ?_
    obtain ⟨hc10, hF⟩ := of_guard hF
    obtain ⟨ad11, c11, he11, hl11⟩ := Ro.el cProd h0 zProd hc10.1 hc10.2
    refine s_ hf (r_idx Try.underlying37 sz82 hf rfl ⟨_, he11⟩ rfl hc10.1 hc10.2) fun a hf => ?_
    refine s_ hf (r_load_agg ty82 hf rfl (hl11.below hw.below) (cProd.len _)) fun a hf => ?_
    refine sx_ hf (r_alloc (cs := cProd.enc zProd) 9 ze82 rfl hw) fun a v w hf hΦ => ?_
    obtain ⟨g9, ρ, rfl, hw, hE, o9⟩ := hΦ
    replace o1 := o1.ext hE
    replace o2 := o2.ext hE
    replace o3 := o3.ext hE
    replace o4 := o4.ext hE
    replace o5 := o5.ext hE
    replace o6 := o6.ext hE
    replace o7 := o7.ext hE
    refine sk_ hf (r_store_w (cs' := cProd.enc (gl zProd a0.ps s6)) hw o9 (by decide) ty82 (cProd.len _) (cProd.len _) (cProd.one _) hf rfl rfl rfl) fun a w hf hΦ => ?_
    obtain ⟨hw, hA, o9⟩ := hΦ
    replace o1 := o1.adv hA (by decide)
    replace o2 := o2.adv hA (by decide)
    replace o3 := o3.adv hA (by decide)
    replace o4 := o4.adv hA (by decide)
    replace o5 := o5.adv hA (by decide)
    replace o6 := o6.adv hA (by decide)
    replace o7 := o7.adv hA (by decide)
    refine c_nt ?_
    obtain ⟨x12, hx13, hF⟩ := of_bind hF
    obtain ⟨x16, hx17, hF⟩ := of_bind hF
    obtain ⟨x20, hx21, hF⟩ := of_bind hF
    obtain ⟨x22, hx23, hF⟩ := of_bind hF
    obtain ⟨x26, hx27, hF⟩ := of_bind hF
    obtain ⟨x30, hx31, hF⟩ := of_bind hF
    obtain ⟨x32, hx33, hF⟩ := of_bind hF
    replace hf : Fr 62 a [(3, .pointer (some ((⟨g1, 0, none⟩ : Addr).add 0))), (4, .pointer (some ((⟨g2, 0, none⟩ : Addr).add 0))), (5, .pointer (some ((⟨g3, 0, none⟩ : Addr).add 0))), (6, .pointer (some ((⟨g4, 0, none⟩ : Addr).add 0))), (7, .pointer (some ((⟨g7, 0, none⟩ : Addr).add 0))), (8, vI s6), (9, .pointer (some ((⟨g9, 0, none⟩ : Addr).add 0)))] := hf.sub ⟨rfl, rfl, rfl, rfl, rfl, rfl, rfl, trivial⟩
    refine c_drawL (h := 35) mixed (by kernel_rfl) (by kernel_rfl) (fun ρ w => Va ρ w 1 g1 39 ([vI a0.p, vI a0.n, vI a0.m, vI a0.k, va0]) ∧ Va ρ w 2 g2 97 ([va1_0, va1_1, va1_2]) ∧ Va ρ w 3 g3 97 ([va2_0, va2_1, va2_2]) ∧ Va ρ w 4 g4 39 ([vI 0, vI 0, vI 0, vI 0, (.slice none 0 0)]) ∧ O82 ρ w w0 5 (.slice none 0 0) ([] : List Prod) ∧ O82 ρ w w0 6 vv8 s7 ∧ Va ρ w 7 g7 39 ([vI x1.p, vI x1.n, vI x1.m, vI x1.k, vv8]) ∧ Va ρ w 9 g9 82 (cProd.enc (gl zProd a0.ps s6))) ?_ [fun ρ w v => .pointer (some ((⟨g7, 0, none⟩ : Addr).add (0 + 4))) = v, fun ρ w v => vv8 = v, fun ρ w v => .pointer (some ((⟨g1, 0, none⟩ : Addr).add (0 + 0))) = v, fun ρ w v => vI a0.p = v, fun ρ w v => .pointer (some ((⟨g2, 0, none⟩ : Addr).add (0 + (0 : Int).toNat * 1))) = v, fun ρ w v => va1_0 = v, fun ρ w v => ∃ u14, u14 = v ∧ O36 ρ w w0 10 u14 x12, fun ρ w v => .pointer (some ((⟨g9, 0, none⟩ : Addr).add (0 + 0))) = v, fun ρ w v => .agg (cForm.enc ((gl zProd a0.ps s6).1)).toArray = v, fun ρ w v => .pointer (some ((⟨g3, 0, none⟩ : Addr).add (0 + (1 : Int).toNat * 1))) = v, fun ρ w v => va2_1 = v, fun ρ w v => ∃ u18, u18 = v ∧ O36 ρ w w0 11 u18 x16, fun ρ w v => .agg (cForm.enc x20).toArray = v, fun ρ w v => .pointer (some ((⟨g1, 0, none⟩ : Addr).add (0 + 0))) = v, fun ρ w v => vI a0.p = v, fun ρ w v => .pointer (some ((⟨g2, 0, none⟩ : Addr).add (0 + (1 : Int).toNat * 1))) = v, fun ρ w v => va1_1 = v, fun ρ w v => ∃ u24, u24 = v ∧ O36 ρ w w0 13 u24 x22, fun ρ w v => .pointer (some ((⟨g9, 0, none⟩ : Addr).add (0 + 9))) = v, fun ρ w v => .agg (cForm.enc ((gl zProd a0.ps s6).2.1)).toArray = v, fun ρ w v => .pointer (some ((⟨g3, 0, none⟩ : Addr).add (0 + (2 : Int).toNat * 1))) = v, fun ρ w v => va2_2 = v, fun ρ w v => ∃ u28, u28 = v ∧ O36 ρ w w0 14 u28 x26, fun ρ w v => .agg (cForm.enc x30).toArray = v, fun ρ w v => .pointer (some ((⟨g1, 0, none⟩ : Addr).add (0 + 0))) = v, fun ρ w v => vI a0.p = v, fun ρ w v => .pointer (some ((⟨g3, 0, none⟩ : Addr).add (0 + (0 : Int).toNat * 1))) = v, fun ρ w v => va2_0 = v, fun ρ w v => .pointer (some ((⟨g9, 0, none⟩ : Addr).add (0 + 18))) = v, fun ρ w v => .agg (cForm.enc ((gl zProd a0.ps s6).2.2)).toArray = v, fun ρ w v => .pointer (some ((⟨g2, 0, none⟩ : Addr).add (0 + (2 : Int).toNat * 1))) = v, fun ρ w v => va1_2 = v, fun ρ w v => .agg (cForm.enc x32).toArray = v, fun ρ w v => .agg (cProd.enc (x20, x30, x32)).toArray = v, fun ρ w v => ∃ v17, v17 = v ∧ O82 ρ w w0 17 v17 ([(x20, x30, x32)])] ?_ hw ⟨o1, o2, o3, o4, o5, o6, o7, o9⟩ hf ?_ ?_
    · intro ρ w ρ' w' hE hG
      obtain ⟨o1, o2, o3, o4, o5, o6, o7, o9⟩ := hG
      exact ⟨o1.ext hE, o2.ext hE, o3.ext hE, o4.ext hE, o5.ext hE, o6.ext hE, o7.ext hE, o9.ext hE⟩
    · exact LastsL.cons (fun _ _ _ _ _ _ h => h) <| LastsL.cons (fun _ _ _ _ _ _ h => h) <| LastsL.cons (fun _ _ _ _ _ _ h => h) <| LastsL.cons (fun _ _ _ _ _ _ h => h) <| LastsL.cons (fun _ _ _ _ _ _ h => h) <| LastsL.cons (fun _ _ _ _ _ _ h => h) <| LastsL.cons (fun _ _ _ _ _ hE h => by obtain ⟨u14, h, o10⟩ := h; exact ⟨_, h, o10.ext hE⟩) <| LastsL.cons (fun _ _ _ _ _ _ h => h) <| LastsL.cons (fun _ _ _ _ _ _ h => h) <| LastsL.cons (fun _ _ _ _ _ _ h => h) <| LastsL.cons (fun _ _ _ _ _ _ h => h) <| LastsL.cons (fun _ _ _ _ _ hE h => by obtain ⟨u18, h, o11⟩ := h; exact ⟨_, h, o11.ext hE⟩) <| LastsL.cons (fun _ _ _ _ _ _ h => h) <| LastsL.cons (fun _ _ _ _ _ _ h => h) <| LastsL.cons (fun _ _ _ _ _ _ h => h) <| LastsL.cons (fun _ _ _ _ _ _ h => h) <| LastsL.cons (fun _ _ _ _ _ _ h => h) <| LastsL.cons (fun _ _ _ _ _ hE h => by obtain ⟨u24, h, o13⟩ := h; exact ⟨_, h, o13.ext hE⟩) <| LastsL.cons (fun _ _ _ _ _ _ h => h) <| LastsL.cons (fun _ _ _ _ _ _ h => h) <| LastsL.cons (fun _ _ _ _ _ _ h => h) <| LastsL.cons (fun _ _ _ _ _ _ h => h) <| LastsL.cons (fun _ _ _ _ _ hE h => by obtain ⟨u28, h, o14⟩ := h; exact ⟨_, h, o14.ext hE⟩) <| LastsL.cons (fun _ _ _ _ _ _ h => h) <| LastsL.cons (fun _ _ _ _ _ _ h => h) <| LastsL.cons (fun _ _ _ _ _ _ h => h) <| LastsL.cons (fun _ _ _ _ _ _ h => h) <| LastsL.cons (fun _ _ _ _ _ _ h => h) <| LastsL.cons (fun _ _ _ _ _ _ h => h) <| LastsL.cons (fun _ _ _ _ _ _ h => h) <| LastsL.cons (fun _ _ _ _ _ _ h => h) <| LastsL.cons (fun _ _ _ _ _ _ h => h) <| LastsL.cons (fun _ _ _ _ _ _ h => h) <| LastsL.cons (fun _ _ _ _ _ _ h => h) <| LastsL.cons (fun _ _ _ _ _ hE h => by obtain ⟨v17, h, o17⟩ := h; exact ⟨_, h, o17.ext hE⟩) <| LastsL.nil
    · refine StepsB.cons ?_ <| StepsB.cons ?_ <| StepsB.cons ?_ <| StepsB.cons ?_ <| StepsB.cons ?_ <| StepsB.cons ?_ <| StepsB.cons ?_ <| StepsB.cons ?_ <| StepsB.cons ?_ <| StepsB.cons ?_ <| StepsB.cons ?_ <| StepsB.cons ?_ <| StepsB.cons ?_ <| StepsB.cons ?_ <| StepsB.cons ?_ <| StepsB.cons ?_ <| StepsB.cons ?_ <| StepsB.cons ?_ <| StepsB.cons ?_ <| StepsB.cons ?_ <| StepsB.cons ?_ <| StepsB.cons ?_ <| StepsB.cons ?_ <| StepsB.cons ?_ <| StepsB.cons ?_ <| StepsB.cons ?_ <| StepsB.cons ?_ <| StepsB.cons ?_ <| StepsB.cons ?_ <| StepsB.cons ?_ <| StepsB.cons ?_ <| StepsB.cons ?_ <| StepsB.cons ?_ <| StepsB.cons ?_ <| StepsB.cons ?_ <| StepsB.nil
      · intro ρ w a hw hG hf hd K hK
        obtain ⟨o1, o2, o3, o4, o5, o6, o7, o9⟩ := hG
        exact dv_ hK hw (wn rfl) (r_fa fa39_4 hf rfl) rfl
      · intro ρ w a hw hG hf hd K hK
        obtain ⟨o1, o2, o3, o4, o5, o6, o7, o9⟩ := hG
        obtain ⟨_, hf, rfl⟩ := got (hd 0 (by kernel_rfl)) hf
        exact dv_ hK hw (wn rfl) (r_load_cell ty37 hf rfl (o7.cl.at_ 4 _ rfl)) rfl
      · intro ρ w a hw hG hf hd K hK
        obtain ⟨o1, o2, o3, o4, o5, o6, o7, o9⟩ := hG
        exact dv_ hK hw (wn rfl) (r_fa fa39_0 hf rfl) rfl
      · intro ρ w a hw hG hf hd K hK
        obtain ⟨o1, o2, o3, o4, o5, o6, o7, o9⟩ := hG
        obtain ⟨_, hf, rfl⟩ := got (hd 2 (by kernel_rfl)) hf
        exact dv_ hK hw (wn rfl) (r_load_cell ty2 hf rfl (o1.cl.at_ 0 _ rfl)) rfl
      · intro ρ w a hw hG hf hd K hK
        obtain ⟨o1, o2, o3, o4, o5, o6, o7, o9⟩ := hG
        exact dv_ hK hw (wn rfl) (r_indexAddr_arr Try.underlying97 sz24 hf rfl rfl (by decide) (by decide)) rfl
      · intro ρ w a hw hG hf hd K hK
        obtain ⟨o1, o2, o3, o4, o5, o6, o7, o9⟩ := hG
        obtain ⟨_, hf, rfl⟩ := got (hd 4 (by kernel_rfl)) hf
        exact dv_ hK hw (wn rfl) (r_load_cell ty24 hf rfl (o2.cl.at_ 0 _ rfl)) rfl
      · intro ρ w a hw hG hf hd K hK
        obtain ⟨o1, o2, o3, o4, o5, o6, o7, o9⟩ := hG
        obtain ⟨_, hf, rfl⟩ := got (hd 5 (by kernel_rfl)) hf
        refine dc_ hK hw (wn rfl) (r_fn en138 hf rfl) (spec_l04Flip_ok (h1_0.now hw) hx13) fun v w' hΦ => ?_
        obtain ⟨hb, hΦ⟩ := hΦ
        obtain ⟨u14, rfl, hr15⟩ := hΦ
        have hE := Ext.new (ρ := ρ) 10 hb
        have o10 := Fresh.own (ρ := ρ) (B := w0.heap.size) hr15 hw.below.size 10
        exact ⟨_, hw.new 10 hb, hE, ex_ <| an_ rfl <| o10⟩
      · intro ρ w a hw hG hf hd K hK
        obtain ⟨o1, o2, o3, o4, o5, o6, o7, o9⟩ := hG
        exact dv_ hK hw (wn rfl) (r_fa fa82_0 hf rfl) rfl
      · intro ρ w a hw hG hf hd K hK
        obtain ⟨o1, o2, o3, o4, o5, o6, o7, o9⟩ := hG
        obtain ⟨_, hf, rfl⟩ := got (hd 7 (by kernel_rfl)) hf
        exact dv_ hK hw (wn rfl) (r_load_agg ty80 hf rfl (o9.cl.lens lProd_0) (cForm.len _)) rfl
      · intro ρ w a hw hG hf hd K hK
        obtain ⟨o1, o2, o3, o4, o5, o6, o7, o9⟩ := hG
        exact dv_ hK hw (wn rfl) (r_indexAddr_arr Try.underlying97 sz24 hf rfl rfl (by decide) (by decide)) rfl
      · intro ρ w a hw hG hf hd K hK
        obtain ⟨o1, o2, o3, o4, o5, o6, o7, o9⟩ := hG
        obtain ⟨_, hf, rfl⟩ := got (hd 9 (by kernel_rfl)) hf
        exact dv_ hK hw (wn rfl) (r_load_cell ty24 hf rfl (o3.cl.at_ 1 _ rfl)) rfl
      · intro ρ w a hw hG hf hd K hK
        obtain ⟨o1, o2, o3, o4, o5, o6, o7, o9⟩ := hG
        obtain ⟨_, hf, rfl⟩ := got (hd 10 (by kernel_rfl)) hf
        refine dc_ hK hw (wn rfl) (r_fn en138 hf rfl) (spec_l04Flip_ok (h2_1.now hw) hx17) fun v w' hΦ => ?_
        obtain ⟨hb, hΦ⟩ := hΦ
        obtain ⟨u18, rfl, hr19⟩ := hΦ
        have hE := Ext.new (ρ := ρ) 11 hb
        have o11 := Fresh.own (ρ := ρ) (B := w0.heap.size) hr19 hw.below.size 11
        exact ⟨_, hw.new 11 hb, hE, ex_ <| an_ rfl <| o11⟩
      · intro ρ w a hw hG hf hd K hK
        obtain ⟨o1, o2, o3, o4, o5, o6, o7, o9⟩ := hG
        obtain ⟨_, hf, rfl⟩ := got (hd 3 (by kernel_rfl)) hf
        obtain ⟨_, hf, ⟨u14, rfl, o10⟩⟩ := got (hd 6 (by kernel_rfl)) hf
        obtain ⟨_, hf, rfl⟩ := got (hd 8 (by kernel_rfl)) hf
        obtain ⟨_, hf, ⟨u18, rfl, o11⟩⟩ := got (hd 11 (by kernel_rfl)) hf
        refine dc_ hK hw (wn rfl) (r_fn en137 hf rfl) (spec_l04Both_ok o10.ro o11.ro hx21) fun v w' hΦ => ?_
        obtain ⟨hb, hΦ⟩ := hΦ
        obtain rfl := hΦ
        have hE := Ext.new (ρ := ρ) 12 hb
        exact ⟨_, hw.new 12 hb, hE, rfl⟩
      · intro ρ w a hw hG hf hd K hK
        obtain ⟨o1, o2, o3, o4, o5, o6, o7, o9⟩ := hG
        exact dv_ hK hw (wn rfl) (r_fa fa39_0 hf rfl) rfl
      · intro ρ w a hw hG hf hd K hK
        obtain ⟨o1, o2, o3, o4, o5, o6, o7, o9⟩ := hG
        obtain ⟨_, hf, rfl⟩ := got (hd 13 (by kernel_rfl)) hf
        exact dv_ hK hw (wn rfl) (r_load_cell ty2 hf rfl (o1.cl.at_ 0 _ rfl)) rfl
      · intro ρ w a hw hG hf hd K hK
        obtain ⟨o1, o2, o3, o4, o5, o6, o7, o9⟩ := hG
        exact dv_ hK hw (wn rfl) (r_indexAddr_arr Try.underlying97 sz24 hf rfl rfl (by decide) (by decide)) rfl
      · intro ρ w a hw hG hf hd K hK
        obtain ⟨o1, o2, o3, o4, o5, o6, o7, o9⟩ := hG
        obtain ⟨_, hf, rfl⟩ := got (hd 15 (by kernel_rfl)) hf
        exact dv_ hK hw (wn rfl) (r_load_cell ty24 hf rfl (o2.cl.at_ 1 _ rfl)) rfl
      · intro ρ w a hw hG hf hd K hK
        obtain ⟨o1, o2, o3, o4, o5, o6, o7, o9⟩ := hG
        obtain ⟨_, hf, rfl⟩ := got (hd 16 (by kernel_rfl)) hf
        refine dc_ hK hw (wn rfl) (r_fn en138 hf rfl) (spec_l04Flip_ok (h1_1.now hw) hx23) fun v w' hΦ => ?_
        obtain ⟨hb, hΦ⟩ := hΦ
        obtain ⟨u24, rfl, hr25⟩ := hΦ
        have hE := Ext.new (ρ := ρ) 13 hb
        have o13 := Fresh.own (ρ := ρ) (B := w0.heap.size) hr25 hw.below.size 13
        exact ⟨_, hw.new 13 hb, hE, ex_ <| an_ rfl <| o13⟩
      · intro ρ w a hw hG hf hd K hK
        obtain ⟨o1, o2, o3, o4, o5, o6, o7, o9⟩ := hG
        exact dv_ hK hw (wn rfl) (r_fa fa82_1 hf rfl) rfl
      · intro ρ w a hw hG hf hd K hK
        obtain ⟨o1, o2, o3, o4, o5, o6, o7, o9⟩ := hG
        obtain ⟨_, hf, rfl⟩ := got (hd 18 (by kernel_rfl)) hf
        exact dv_ hK hw (wn rfl) (r_load_agg ty80 hf rfl (o9.cl.lens lProd_1) (cForm.len _)) rfl
      · intro ρ w a hw hG hf hd K hK
        obtain ⟨o1, o2, o3, o4, o5, o6, o7, o9⟩ := hG
        exact dv_ hK hw (wn rfl) (r_indexAddr_arr Try.underlying97 sz24 hf rfl rfl (by decide) (by decide)) rfl
      · intro ρ w a hw hG hf hd K hK
        obtain ⟨o1, o2, o3, o4, o5, o6, o7, o9⟩ := hG
        obtain ⟨_, hf, rfl⟩ := got (hd 20 (by kernel_rfl)) hf
        exact dv_ hK hw (wn rfl) (r_load_cell ty24 hf rfl (o3.cl.at_ 2 _ rfl)) rfl
      · intro ρ w a hw hG hf hd K hK
        obtain ⟨o1, o2, o3, o4, o5, o6, o7, o9⟩ := hG
        obtain ⟨_, hf, rfl⟩ := got (hd 21 (by kernel_rfl)) hf
        refine dc_ hK hw (wn rfl) (r_fn en138 hf rfl) (spec_l04Flip_ok (h2_2.now hw) hx27) fun v w' hΦ => ?_
        obtain ⟨hb, hΦ⟩ := hΦ
        obtain ⟨u28, rfl, hr29⟩ := hΦ
        have hE := Ext.new (ρ := ρ) 14 hb
        have o14 := Fresh.own (ρ := ρ) (B := w0.heap.size) hr29 hw.below.size 14
        exact ⟨_, hw.new 14 hb, hE, ex_ <| an_ rfl <| o14⟩
      · intro ρ w a hw hG hf hd K hK
        obtain ⟨o1, o2, o3, o4, o5, o6, o7, o9⟩ := hG
        obtain ⟨_, hf, rfl⟩ := got (hd 14 (by kernel_rfl)) hf
        obtain ⟨_, hf, ⟨u24, rfl, o13⟩⟩ := got (hd 17 (by kernel_rfl)) hf
        obtain ⟨_, hf, rfl⟩ := got (hd 19 (by kernel_rfl)) hf
        obtain ⟨_, hf, ⟨u28, rfl, o14⟩⟩ := got (hd 22 (by kernel_rfl)) hf
        refine dc_ hK hw (wn rfl) (r_fn en137 hf rfl) (spec_l04Both_ok o13.ro o14.ro hx31) fun v w' hΦ => ?_
        obtain ⟨hb, hΦ⟩ := hΦ
        obtain rfl := hΦ
        have hE := Ext.new (ρ := ρ) 15 hb
        exact ⟨_, hw.new 15 hb, hE, rfl⟩
      · intro ρ w a hw hG hf hd K hK
        obtain ⟨o1, o2, o3, o4, o5, o6, o7, o9⟩ := hG
        exact dv_ hK hw (wn rfl) (r_fa fa39_0 hf rfl) rfl
      · intro ρ w a hw hG hf hd K hK
        obtain ⟨o1, o2, o3, o4, o5, o6, o7, o9⟩ := hG
        obtain ⟨_, hf, rfl⟩ := got (hd 24 (by kernel_rfl)) hf
        exact dv_ hK hw (wn rfl) (r_load_cell ty2 hf rfl (o1.cl.at_ 0 _ rfl)) rfl
      · intro ρ w a hw hG hf hd K hK
        obtain ⟨o1, o2, o3, o4, o5, o6, o7, o9⟩ := hG
        exact dv_ hK hw (wn rfl) (r_indexAddr_arr Try.underlying97 sz24 hf rfl rfl (by decide) (by decide)) rfl
      · intro ρ w a hw hG hf hd K hK
        obtain ⟨o1, o2, o3, o4, o5, o6, o7, o9⟩ := hG
        obtain ⟨_, hf, rfl⟩ := got (hd 26 (by kernel_rfl)) hf
        exact dv_ hK hw (wn rfl) (r_load_cell ty24 hf rfl (o3.cl.at_ 0 _ rfl)) rfl
      · intro ρ w a hw hG hf hd K hK
        obtain ⟨o1, o2, o3, o4, o5, o6, o7, o9⟩ := hG
        exact dv_ hK hw (wn rfl) (r_fa fa82_2 hf rfl) rfl
      · intro ρ w a hw hG hf hd K hK
        obtain ⟨o1, o2, o3, o4, o5, o6, o7, o9⟩ := hG
        obtain ⟨_, hf, rfl⟩ := got (hd 28 (by kernel_rfl)) hf
        exact dv_ hK hw (wn rfl) (r_load_agg ty80 hf rfl (o9.cl.lens lProd_2) (cForm.len _)) rfl
      · intro ρ w a hw hG hf hd K hK
        obtain ⟨o1, o2, o3, o4, o5, o6, o7, o9⟩ := hG
        exact dv_ hK hw (wn rfl) (r_indexAddr_arr Try.underlying97 sz24 hf rfl rfl (by decide) (by decide)) rfl
      · intro ρ w a hw hG hf hd K hK
        obtain ⟨o1, o2, o3, o4, o5, o6, o7, o9⟩ := hG
        obtain ⟨_, hf, rfl⟩ := got (hd 30 (by kernel_rfl)) hf
        exact dv_ hK hw (wn rfl) (r_load_cell ty24 hf rfl (o2.cl.at_ 2 _ rfl)) rfl
      · intro ρ w a hw hG hf hd K hK
        obtain ⟨o1, o2, o3, o4, o5, o6, o7, o9⟩ := hG
        obtain ⟨_, hf, rfl⟩ := got (hd 25 (by kernel_rfl)) hf
        obtain ⟨_, hf, rfl⟩ := got (hd 27 (by kernel_rfl)) hf
        obtain ⟨_, hf, rfl⟩ := got (hd 29 (by kernel_rfl)) hf
        obtain ⟨_, hf, rfl⟩ := got (hd 31 (by kernel_rfl)) hf
        refine dc_ hK hw (wn rfl) (r_fn en137 hf rfl) (spec_l04Both_ok (h2_0.now hw) (h1_2.now hw) hx33) fun v w' hΦ => ?_
        obtain ⟨hb, hΦ⟩ := hΦ
        obtain rfl := hΦ
        have hE := Ext.new (ρ := ρ) 16 hb
        exact ⟨_, hw.new 16 hb, hE, rfl⟩
      · intro ρ w a hw hG hf hd K hK
        obtain ⟨o1, o2, o3, o4, o5, o6, o7, o9⟩ := hG
        obtain ⟨_, hf, rfl⟩ := got (hd 12 (by kernel_rfl)) hf
        obtain ⟨_, hf, rfl⟩ := got (hd 23 (by kernel_rfl)) hf
        obtain ⟨_, hf, rfl⟩ := got (hd 32 (by kernel_rfl)) hf
        exact dv_ hK hw (wn rfl) (r_build_struct (pl := [(0, 9), (9, 9), (18, 9)]) (vs := [(0, .agg (cForm.enc x20).toArray), (1, .agg (cForm.enc x30).toArray), (2, .agg (cForm.enc x32).toArray)]) (res := (cProd.enc (x20, x30, x32)).toArray) Try.underlying82 (by kernel_rfl) ze82 hf rfl rfl ((fill_lens (d := cProd) (z := zProd) lProd_0 rfl rfl).trans ((fill_lens (d := cProd) (z := (x20, zProd.2.1, zProd.2.2)) lProd_1 rfl rfl).trans ((fill_lens (d := cProd) (z := (x20, x30, zProd.2.2)) lProd_2 rfl rfl).trans rfl)))) rfl
      · intro ρ w a hw hG hf hd K hK
        obtain ⟨o1, o2, o3, o4, o5, o6, o7, o9⟩ := hG
        obtain ⟨_, hf, rfl⟩ := got (hd 33 (by kernel_rfl)) hf
        refine dx_ hK hw (wn rfl) (r_lit (d := cProd) (xs := ([(x20, x30, x32)] : List Prod)) (vs := [.agg (cProd.enc (x20, x30, x32)).toArray]) 17 Try.underlying37 el82 (Nat.le_of_ble_eq_true rfl) (Nat.le_of_ble_eq_true rfl) hw hf rfl rfl rfl) fun v17 w' hΦ => ?_
        obtain ⟨ρ, hw, hE, o17⟩ := hΦ
        exact ⟨_, hw, hE, ex_ <| an_ rfl <| o17⟩
    intro ρ w a hw hG hf hd
    obtain ⟨o1, o2, o3, o4, o5, o6, o7, o9⟩ := hG
    obtain ⟨_, hf, rfl⟩ := got (hd 1 (by decide)) hf
    obtain ⟨_, hf, ⟨v17, rfl, o17⟩⟩ := got (hd 34 (by decide)) hf
    obtain ⟨hc34, hF⟩ := of_guard hF
    refine sx_ hf (r_append Try.underlying37 el82 hw (by decide) o6 o17.ro hc34 hf rfl rfl) fun a va35 w hf hΦ => ?_
    obtain ⟨ρ, hw, hA, o6⟩ := hΦ
    replace o1 := o1.adv hA (by decide)
    replace o2 := o2.adv hA (by decide)
    replace o3 := o3.adv hA (by decide)
    replace o4 := o4.adv hA (by decide)
    replace o5 := o5.adv hA (by decide)
    replace o7 := o7.adv hA (by decide)
    replace o9 := o9.adv hA (by decide)
    replace o17 := o17.adv hA (by decide)
    refine s_ hf (r_fa fa39_4 hf rfl) fun a hf => ?_
    refine sk_ hf (r_store_c hw o7 (by decide) ty37 (Nat.le_of_ble_eq_true rfl) hf rfl rfl o6.ro.cells1 o6.ro.one) fun a w hf hΦ => ?_
    obtain ⟨hw, hA, o7⟩ := hΦ
    replace o1 := o1.adv hA (by decide)
    replace o2 := o2.adv hA (by decide)
    replace o3 := o3.adv hA (by decide)
    replace o4 := o4.adv hA (by decide)
    replace o5 := o5.adv hA (by decide)
    replace o6 := o6.adv hA (by decide)
    replace o9 := o9.adv hA (by decide)
    replace o17 := o17.adv hA (by decide)
    replace o7 : Va ρ w 7 g7 39 ([vI x1.p, vI x1.n, vI x1.m, vI x1.k, va35]) := o7
    refine c_nil <| n_block <| n_then <| c_region ?_
    refine s_ hf (r_move hf rfl) fun a hf => ?_
    refine s_ hf (r_add hf rfl rfl) fun a hf => ?_
    refine s_ hf (r_assign hf rfl) fun a hf => ?_
    refine c_nil ?_
    obtain rfl := Option.some.inj hF
    exact Rnd.goes ⟨_, _, hw, hf.sub ⟨rfl, rfl, rfl, rfl, rfl, rfl, trivial⟩, o1, o2, o3, o4, o5, o6, o7⟩
  rintro ⟨s6, s7⟩ a w hs ⟨ρ, vv8, hw, hf, o4, o5, o6, o7⟩
  subst hs
  have hF := hG5
  dsimp only at hF
  refine x_block <| n_then <| c_seq <| c_region ?_
  refine s_ hf (r_load_agg ty39 hf rfl o7.cl rfl) fun a hf => ?_
  refine sk_ hf (r_store_w (cs' := [vI x1.p, vI x1.n, vI x1.m, vI x1.k, vv8]) hw o4 (by decide) ty39 rfl rfl (one_sch o6.ro.one) hf rfl rfl rfl) fun a w hf hΦ => ?_
  obtain ⟨hw, hA, o4⟩ := hΦ
  replace o5 := o5.adv hA (by decide)
  replace o6 := o6.adv hA (by decide)
  replace o7 := o7.adv hA (by decide)
  refine c_nt <| c_retc ?_
  obtain rfl := Option.some.inj hF
  refine c_ret hf (res_cell Try.results94 ty39 hf rfl o4.cl rfl) ?_
  exact ⟨_, rfl, hw.below, ⟨_, rfl, o6.out⟩⟩
/-! f139 -/
noncomputable def impl_changed_1 (a0 : List (List Int)) (a1 : Form) (a2 : Int) (a3 : Int) (a4 : List (List Int)) (c5 : Int) : Option Form :=
  (impl_matrixOf a1 a2 a3).bind fun x1 => (impl_multiply c5 a0 x1).bind fun x5 => (impl_multiply c5 x5 a4).bind fun x9 => (impl_formOf x9).bind fun x13 => some (x13)
theorem impl_changed_1_ok {w0 : World} {a0 : List (List Int)} {a1 : Form} {a2 : Int} {a3 : Int} {a4 : List (List Int)} {c5 : Int} {va0 : Value} {va4 : Value} {gc5 : Nat} (h0 : Ro (Kd.slice 2 (kf fI64)) w0 va0 a0) (h4 : Ro (Kd.slice 2 (kf fI64)) w0 va4 a4) (hc5 : Cl w0 ⟨gc5, 0, none⟩ 0 [vI c5]) {r : Form} (hF : impl_changed_1 a0 a1 a2 a3 a4 c5 = some r) :
    Calls Try.prog 139 [va0, .agg (cForm.enc a1).toArray, vI a2, vI a3, va4, .pointer (some ((⟨gc5, 0, none⟩ : Addr).add 0))].toArray w0 fun e w => ∃ v, e = .returned v ∧ Below w0.heap.size w0 w ∧ .agg (cForm.enc r).toArray = v := by
  refine calls_of (k := 23) Try.func139 rfl rfl (Nat.le_of_ble_eq_true rfl) fun a hf => ?_
  replace hf : Fr 23 a [(0, va0), (1, .agg (cForm.enc a1).toArray), (2, vI a2), (3, vI a3), (4, va4), (5, .pointer (some ((⟨gc5, 0, none⟩ : Addr).add 0)))] := hf
  refine c_start fun w ρ hw => ?_
  unfold impl_changed_1 at hF
  refine c_seq <| c_region ?_
  refine sx_ hf (r_box (cs := cForm.enc a1) 1 hw hf rfl rfl) fun a v w hf hΦ => ?_
  obtain ⟨g1, ρ, rfl, hw, hE, o1⟩ := hΦ
  refine sx_ hf (r_alloc (cs := cForm.enc zForm) 2 ze80 rfl hw) fun a v w hf hΦ => ?_
  obtain ⟨g2, ρ, rfl, hw, hE, o2⟩ := hΦ
  replace o1 := o1.ext hE
  refine c_nt <| c_seq ?_
  obtain ⟨x1, hx2, hF⟩ := of_bind hF
  obtain ⟨x5, hx6, hF⟩ := of_bind hF
  replace hf : Fr 23 a [(0, va0), (2, vI a2), (3, vI a3), (4, va4), (5, .pointer (some ((⟨gc5, 0, none⟩ : Addr).add 0))), (7, .pointer (some ((⟨g1, 0, none⟩ : Addr).add 0))), (11, .pointer (some ((⟨g2, 0, none⟩ : Addr).add 0)))] := hf.sub ⟨rfl, rfl, rfl, rfl, rfl, rfl, rfl, trivial⟩
  refine c_drawL (h := 9) mixed (by kernel_rfl) (by kernel_rfl) (fun ρ w => Va ρ w 1 g1 80 (cForm.enc a1) ∧ Va ρ w 2 g2 80 (cForm.enc zForm)) ?_ [fun ρ w v => vI c5 = v, fun ρ w v => vI c5 = v, fun ρ w v => va0 = v, fun ρ w v => .agg (cForm.enc a1).toArray = v, fun ρ w v => vI a2 = v, fun ρ w v => vI a3 = v, fun ρ w v => ∃ u3, u3 = v ∧ O36 ρ w w0 3 u3 x1, fun ρ w v => ∃ u7, u7 = v ∧ O36 ρ w w0 4 u7 x5, fun ρ w v => va4 = v] ?_ hw ⟨o1, o2⟩ hf ?_ ?_
  · intro ρ w ρ' w' hE hG
    obtain ⟨o1, o2⟩ := hG
    exact ⟨o1.ext hE, o2.ext hE⟩
  · exact LastsL.cons (fun _ _ _ _ _ _ h => h) <| LastsL.cons (fun _ _ _ _ _ _ h => h) <| LastsL.cons (fun _ _ _ _ _ _ h => h) <| LastsL.cons (fun _ _ _ _ _ _ h => h) <| LastsL.cons (fun _ _ _ _ _ _ h => h) <| LastsL.cons (fun _ _ _ _ _ _ h => h) <| LastsL.cons (fun _ _ _ _ _ hE h => by obtain ⟨u3, h, o3⟩ := h; exact ⟨_, h, o3.ext hE⟩) <| LastsL.cons (fun _ _ _ _ _ hE h => by obtain ⟨u7, h, o4⟩ := h; exact ⟨_, h, o4.ext hE⟩) <| LastsL.cons (fun _ _ _ _ _ _ h => h) <| LastsL.nil
  · refine StepsB.cons ?_ <| StepsB.cons ?_ <| StepsB.cons ?_ <| StepsB.cons ?_ <| StepsB.cons ?_ <| StepsB.cons ?_ <| StepsB.cons ?_ <| StepsB.cons ?_ <| StepsB.cons ?_ <| StepsB.nil
    · intro ρ w a hw hG hf hd K hK
      obtain ⟨o1, o2⟩ := hG
      exact dv_ hK hw (wn rfl) (r_load_cell ty2 hf rfl (hc5.below hw.below)) rfl
    · intro ρ w a hw hG hf hd K hK
      obtain ⟨o1, o2⟩ := hG
      exact dv_ hK hw (wn rfl) (r_load_cell ty2 hf rfl (hc5.below hw.below)) rfl
    · intro ρ w a hw hG hf hd K hK
      obtain ⟨o1, o2⟩ := hG
      exact dv_ hK hw (wn rfl) (r_move hf rfl) rfl
    · intro ρ w a hw hG hf hd K hK
      obtain ⟨o1, o2⟩ := hG
      exact dv_ hK hw (wn rfl) (r_load_agg ty80 hf rfl o1.cl (cForm.len _)) rfl
    · intro ρ w a hw hG hf hd K hK
      obtain ⟨o1, o2⟩ := hG
      exact dv_ hK hw (wn rfl) (r_move hf rfl) rfl
    · intro ρ w a hw hG hf hd K hK
      obtain ⟨o1, o2⟩ := hG
      exact dv_ hK hw (wn rfl) (r_move hf rfl) rfl
    · intro ρ w a hw hG hf hd K hK
      obtain ⟨o1, o2⟩ := hG
      obtain ⟨_, hf, rfl⟩ := got (hd 3 (by kernel_rfl)) hf
      obtain ⟨_, hf, rfl⟩ := got (hd 4 (by kernel_rfl)) hf
      obtain ⟨_, hf, rfl⟩ := got (hd 5 (by kernel_rfl)) hf
      refine dc_ hK hw (wn rfl) (r_fn en131 hf rfl) (impl_matrixOf_ok  hx2) fun v w' hΦ => ?_
      obtain ⟨hb, hΦ⟩ := hΦ
      obtain ⟨u3, rfl, hr4⟩ := hΦ
      have hE := Ext.new (ρ := ρ) 3 hb
      have o3 := Fresh.own (ρ := ρ) (B := w0.heap.size) hr4 hw.below.size 3
      exact ⟨_, hw.new 3 hb, hE, ex_ <| an_ rfl <| o3⟩
    · intro ρ w a hw hG hf hd K hK
      obtain ⟨o1, o2⟩ := hG
      obtain ⟨_, hf, rfl⟩ := got (hd 1 (by kernel_rfl)) hf
      obtain ⟨_, hf, rfl⟩ := got (hd 2 (by kernel_rfl)) hf
      obtain ⟨_, hf, ⟨u3, rfl, o3⟩⟩ := got (hd 6 (by kernel_rfl)) hf
      refine dc_ hK hw (wn rfl) (r_fn en68 hf rfl) (impl_multiply_ok (h0.now hw) o3.ro hx6) fun v w' hΦ => ?_
      obtain ⟨hb, hΦ⟩ := hΦ
      obtain ⟨u7, rfl, hr8⟩ := hΦ
      have hE := Ext.new (ρ := ρ) 4 hb
      have o4 := Fresh.own (ρ := ρ) (B := w0.heap.size) hr8 hw.below.size 4
      exact ⟨_, hw.new 4 hb, hE, ex_ <| an_ rfl <| o4⟩
    · intro ρ w a hw hG hf hd K hK
      obtain ⟨o1, o2⟩ := hG
      exact dv_ hK hw (wn rfl) (r_move hf rfl) rfl
  intro ρ w a hw hG hf hd
  obtain ⟨o1, o2⟩ := hG
  obtain ⟨_, hf, rfl⟩ := got (hd 0 (by decide)) hf
  obtain ⟨_, hf, ⟨u7, rfl, o4⟩⟩ := got (hd 7 (by decide)) hf
  obtain ⟨_, hf, rfl⟩ := got (hd 8 (by decide)) hf
  obtain ⟨x9, hx10, hF⟩ := of_bind hF
  refine st_fn 5 hw hf rfl rfl (by decide) (r_fn en68 hf rfl) (impl_multiply_ok o4.ro (h4.now hw) hx10) fun a v w ρ hf hw hE hN hΦ => ?_
  obtain ⟨u11, rfl, hr12⟩ := hΦ
  replace o1 := o1.ext hE
  replace o2 := o2.ext hE
  replace o4 := o4.ext hE
  have o5 := hN hr12
  obtain ⟨x13, hx14, hF⟩ := of_bind hF
  refine st_fn 6 hw hf rfl rfl (by decide) (r_fn en140 hf rfl) (impl_formOf_ok o5.ro hx14) fun a v w ρ hf hw hE hN hΦ => ?_
  obtain rfl := hΦ
  replace o1 := o1.ext hE
  replace o2 := o2.ext hE
  replace o4 := o4.ext hE
  replace o5 := o5.ext hE
  refine sk_ hf (r_store_w (cs' := cForm.enc x13) hw o2 (by decide) ty80 (cForm.len _) (cForm.len _) (cForm.one _) hf rfl rfl rfl) fun a w hf hΦ => ?_
  obtain ⟨hw, hA, o2⟩ := hΦ
  replace o1 := o1.adv hA (by decide)
  replace o4 := o4.adv hA (by decide)
  replace o5 := o5.adv hA (by decide)
  refine c_nt <| c_retc ?_
  obtain rfl := Option.some.inj hF
  refine c_ret hf (res_cell Try.results139 ty80 hf rfl o2.cl (cForm.len _)) ?_
  exact ⟨_, rfl, hw.below, rfl⟩
/-! f142 -/
noncomputable def impl_with (a0 : Sch) (a1 : List Prod) : Option Sch :=
  some ((⟨a0.p, a0.n, a0.m, a0.k, a1⟩ : Sch))
theorem impl_with_ok {w0 ws : World} {ρ0 : Nat → Nat} {i : Nat} (hi : i ≠ 0) (hW : Wd w0 ρ0 ws) {a0 : Sch} {a1 : List Prod} {va0 : Value} {va1 : Value} (h0 : Ro (kf cProd) w0 va0 a0.ps) (h1 : Ow (kf cProd) 82 ρ0 ws w0.heap.size i va1 a1) {r : Sch} (hF : impl_with a0 a1 = some r) :
    Calls Try.prog 142 [.agg ([vI a0.p, vI a0.n, vI a0.m, vI a0.k, va0]).toArray, va1].toArray ws fun e w => ∃ v, e = .returned v ∧ ∃ ρ', Wd w0 ρ' w ∧ Adv i ρ0 ws ρ' w ∧ ∃ u0, .agg [.int .i64 r.p, .int .i64 r.n, .int .i64 r.m, .int .i64 r.k, u0].toArray = v ∧ Ow (kf cProd) 82 ρ' w w0.heap.size i u0 r.ps := by
  refine calls_of (k := 8) Try.func142 rfl rfl (Nat.le_of_ble_eq_true rfl) fun a hf => ?_
  replace hf : Fr 8 a [(0, .agg ([vI a0.p, vI a0.n, vI a0.m, vI a0.k, va0]).toArray), (1, va1)] := hf
  refine c_startm hi hW h1 fun w ρ hw oA o1 => ?_
  unfold impl_with at hF
  refine c_seq <| c_region ?_
  refine sx_ hf (r_box (cs := [vI a0.p, vI a0.n, vI a0.m, vI a0.k, va0]) 2 hw hf rfl rfl) fun a v w hf hΦ => ?_
  obtain ⟨g2, ρ, rfl, hw, hE, o2⟩ := hΦ
  replace oA := oA.ext hE
  replace o1 := o1.ext hE
  have o4 : Ow (kf cProd) 82 ρ w w0.heap.size 4 (.slice none 0 0) [] := Ow.nil _ _ _ _ _ _
  refine sx_ hf (r_alloc (cs := [vI 0, vI 0, vI 0, vI 0, (.slice none 0 0)]) 3 ze39 rfl hw) fun a v w hf hΦ => ?_
  obtain ⟨g3, ρ, rfl, hw, hE, o3⟩ := hΦ
  replace oA := oA.ext hE
  replace o1 := o1.ext hE
  replace o2 := o2.ext hE
  replace o4 := o4.ext hE
  refine c_nt <| c_seq <| c_region ?_
  refine s_ hf (r_move hf rfl) fun a hf => ?_
  refine s_ hf (r_fa fa39_4 hf rfl) fun a hf => ?_
  refine sk_ hf (r_store_c hw o2 (by decide) ty37 (Nat.le_of_ble_eq_true rfl) hf rfl rfl o1.ro.cells1 o1.ro.one) fun a w hf hΦ => ?_
  obtain ⟨hw, hA, o2⟩ := hΦ
  replace oA := oA.adv hA (by decide)
  replace o1 := o1.adv hA (by decide)
  replace o4 := o4.adv hA (by decide)
  replace o3 := o3.adv hA (by decide)
  replace o2 : Va ρ w 2 g2 39 ([vI a0.p, vI a0.n, vI a0.m, vI a0.k, va1]) := o2
  refine c_nt <| c_seq <| c_region ?_
  refine s_ hf (r_load_agg ty39 hf rfl o2.cl rfl) fun a hf => ?_
  refine sk_ hf (r_store_w (cs' := [vI a0.p, vI a0.n, vI a0.m, vI a0.k, va1]) hw o3 (by decide) ty39 rfl rfl (one_sch o1.ro.one) hf rfl rfl rfl) fun a w hf hΦ => ?_
  obtain ⟨hw, hA, o3⟩ := hΦ
  replace oA := oA.adv hA (by decide)
  replace o1 := o1.adv hA (by decide)
  replace o2 := o2.adv hA (by decide)
  replace o4 := o4.adv hA (by decide)
  refine c_nt <| c_retc ?_
  obtain rfl := Option.some.inj hF
  refine c_ret hf (res_cell Try.results142 ty39 hf rfl o3.cl rfl) ?_
  exact ⟨_, rfl, _, m_wd hW hw oA, m_adv oA, _, rfl, m_ow oA o1⟩
end Go.Proofs.YtB
