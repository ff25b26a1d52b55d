/- Functions of the program as plain functions, and that they compute these. Printed by gen.py. -/
import Derived.Test.YtaaghemmkbgldaaRoG3
set_option linter.unusedVariables false
set_option linter.unusedSimpArgs false
set_option maxRecDepth 4000
set_option maxHeartbeats 1000000
namespace Go.Proofs.YtB
open Go Go.RowKit Go.Proofs Go.Proofs.YtaaghemmkbgldaaW.PrintWords
/-! f91 -/
noncomputable def spec_l01Rank_l8 (a1 : Form) (a3 : Int) (s2 : Int) (s9 : Int) (s10 : List Int) : Option (LR (Int × (List Int)) Int) :=
  if (decide (s9 < a3)) = true then (if 0 ≤ w64 ((w64 (s2 * a3)) + s9) ∧ w64 ((w64 (s2 * a3)) + s9) < 9 then (if (s10.length + ([((vg 0 a1 (w64 ((w64 (s2 * a3)) + s9))).toNat : Int)]).length) * 8 ≤ 140737488355328 then (some (.next (w64 (s9 + 1), (s10 ++ [((vg 0 a1 (w64 ((w64 (s2 * a3)) + s9))).toNat : Int)])))) else none) else none) else (some (.stop (s9, s10)))
noncomputable def spec_l01Rank_l1 (a1 : Form) (a2 : Int) (a3 : Int) (s2 : Int) (s3 : List Nat) (s4 : List (List Int)) : Option (LR (Int × (List Nat) × (List (List Int))) Int) :=
  if (decide (s2 < a2)) = true then ((iter (fun s => spec_l01Rank_l8 a1 a3 s2 s.1 s.2) (0, ([] : List Int))).bind fun o => match o with | .stop (s9, s10) => (if (s3.length + 1) * 24 ≤ 140737488355328 then (some (.next (w64 (s2 + 1), (s3 ++ [s4.length]), (s4 ++ [s10])))) else none) | .ret r => some (.ret r) | .next _ => none) else (some (.stop (s2, s3, s4)))
noncomputable def spec_l01Rank_l26 (a2 : Int) (s21 : Int) (s22 : List Nat) (s23 : List (List Int)) (s27 : Int) : Option (LR Int Int) :=
  (if (decide (s27 < a2)) = true then (if 0 ≤ s27 ∧ s27 < (s22.length : Int) then (if 0 ≤ s21 ∧ s21 < ((s23.getD (gl 0 s22 s27) []).length : Int) then (some (decide ((gl 0 (s23.getD (gl 0 s22 s27) []) s21) = 0))) else none) else none) else (some false)).bind fun (s29 : Bool) => if s29 = true then (some (.next (w64 (s27 + 1)))) else (some (.stop s27))
noncomputable def spec_l01Rank_l59 (a0 : Int) (a3 : Int) (s21 : Int) (s22 : List Nat) (s27 : Int) (x46 : Int) (s49 : Int) (s50 : List Nat) (s51 : List (List Int)) (s60 : Int) (s61 : List Int) : Option (LR (Int × (List Int)) Int) :=
  if (decide (s60 < a3)) = true then (if 0 ≤ s60 ∧ s60 < ((s51.getD (gl 0 s50 s49) []).length : Int) then (if 0 ≤ s60 ∧ s60 < ((s51.getD (gl 0 s22 s27) []).length : Int) then ((spec_l01Mod a0 (w64 ((gl 0 (s51.getD (gl 0 s50 s49) []) s60) - (w64 (((w64 ((gl 0 (s51.getD (gl 0 s50 s49) []) s21) * x46)).tmod a0) * (gl 0 (s51.getD (gl 0 s22 s27) []) s60)))))).bind fun x69 => if (s61.length + ([x69]).length) * 8 ≤ 140737488355328 then (some (.next (w64 (s60 + 1), (s61 ++ [x69])))) else none) else none) else none) else (some (.stop (s60, s61)))
noncomputable def spec_l01Rank_l48 (a0 : Int) (a2 : Int) (a3 : Int) (s21 : Int) (s22 : List Nat) (s27 : Int) (x46 : Int) (s49 : Int) (s50 : List Nat) (s51 : List (List Int)) : Option (LR (Int × (List Nat) × (List (List Int))) Int) :=
  if (decide (s49 < a2)) = true then (if 0 ≤ s49 ∧ s49 < (s50.length : Int) then (if 0 ≤ s21 ∧ s21 < ((s51.getD (gl 0 s50 s49) []).length : Int) then (if a0 ≠ 0 then ((iter (fun s => spec_l01Rank_l59 a0 a3 s21 s22 s27 x46 s49 s50 s51 s.1 s.2) (0, ([] : List Int))).bind fun o => match o with | .stop (s60, s61) => (some (.next (w64 (s49 + 1), (s50.set s49.toNat s51.length), (s51 ++ [s61])))) | .ret r => some (.ret r) | .next _ => none) else none) else none) else none) else (some (.stop (s49, s50, s51)))
noncomputable def spec_l01Rank_l19 (a0 : Int) (a2 : Int) (a3 : Int) (s20 : Int) (s21 : Int) (s22 : List Nat) (s23 : List (List Int)) : Option (LR (Int × Int × (List Nat) × (List (List Int))) Int) :=
  if (decide (s21 < a3)) = true then ((iter (fun s => spec_l01Rank_l26 a2 s21 s22 s23 s) s20).bind fun o => match o with | .stop s27 => (if (decide (s27 = a2)) = true then (some (.next (s20, w64 (s21 + 1), s22, s23))) else (if 0 ≤ s27 ∧ s27 < (s22.length : Int) then (if 0 ≤ s20 ∧ s20 < (s22.length : Int) then (if 0 ≤ s20 ∧ s20 < ((s22.set s27.toNat (gl 0 s22 s20)).length : Int) then (if 0 ≤ s21 ∧ s21 < ((s23.getD (gl 0 s22 s27) []).length : Int) then ((spec_l01Inverse a0 (gl 0 (s23.getD (gl 0 s22 s27) []) s21)).bind fun x46 => (iter (fun s => spec_l01Rank_l48 a0 a2 a3 s21 s22 s27 x46 s.1 s.2.1 s.2.2) (w64 (s20 + 1), ((s22.set s27.toNat (gl 0 s22 s20)).set s20.toNat (gl 0 s22 s27)), s23)).bind fun o => match o with | .stop (s49, s50, s51) => (some (.next (w64 (s20 + 1), w64 (s21 + 1), s50, s51))) | .ret r => some (.ret r) | .next _ => none) else none) else none) else none) else none)) | .ret r => some (.ret r) | .next _ => none) else (some (.stop (s20, s21, s22, s23)))
noncomputable def spec_l01Rank (a0 : Int) (a1 : Form) (a2 : Int) (a3 : Int) : Option Int :=
  (iter (fun s => spec_l01Rank_l1 a1 a2 a3 s.1 s.2.1 s.2.2) (0, ([] : List Nat), ([] : List (List Int)))).bind fun o => match o with | .stop (s2, s3, s4) => ((iter (fun s => spec_l01Rank_l19 a0 a2 a3 s.1 s.2.1 s.2.2.1 s.2.2.2) (0, 0, s3, s4)).bind fun o => match o with | .stop (s20, s21, s22, s23) => (some (s20)) | .ret r => some r | .next _ => none) | .ret r => some r | .next _ => none
theorem spec_l01Rank_ok {w0 : World} {a0 : Int} {a1 : Form} {a2 : Int} {a3 : Int}   {r : Int} (hF : spec_l01Rank a0 a1 a2 a3 = some r) :
    Calls Try.prog 91 [vI a0, .agg (cForm.enc a1).toArray, vI a2, vI a3].toArray w0 fun e w => ∃ v, e = .returned v ∧ Below w0.heap.size w0 w ∧ .int .i64 r = v := by
  refine calls_of (k := 144) Try.func91 rfl rfl (Nat.le_of_ble_eq_true rfl) fun a hf => ?_
  replace hf : Fr 144 a [(0, vI a0), (1, .agg (cForm.enc a1).toArray), (2, vI a2), (3, vI a3)] := hf
  refine c_start fun w ρ hw => ?_
  unfold spec_l01Rank at hF
  refine c_seq <| c_region ?_
  refine sx_ hf (r_box (cs := cForm.enc a1) 1 hw hf rfl rfl) fun a v w hf hΦ => ?_
  obtain ⟨g1, ρ, rfl, hw, hE, o1⟩ := hΦ
  refine s_ hf (r_assign hf rfl) fun a hf => ?_
  refine c_nt <| c_seq <| c_region ?_
  refine sx_ hf (r_lit_none (d := (Kd.slice 2 (kf fI64))) 2 Try.underlying44 el61 hw) fun a v2 w hf hΦ => ?_
  obtain ⟨ρ, hw, hE, o2⟩ := hΦ
  replace o1 := o1.ext hE
  replace o2 : Gd fI64 2 61 ρ w w0.heap.size 2 v2 (fun _ => (⟨.bool false, rfl⟩ : V1)) ([] : List Nat) ([] : List (List Int)) := Gd.empty o2 rfl (by decide) _
  refine s_ hf (r_assign hf rfl) fun a hf => ?_
  refine s_ hf (r_assign hf rfl) fun a hf => ?_
  refine c_nt <| c_seq <| c_seq <| c_region ?_
  refine s_ hf (r_assign hf rfl) fun a hf => ?_
  refine c_nt ?_
  obtain ⟨ol1, ho1, hG1⟩ := of_bind hF
  clear hF
  refine c_block (c_loop (id := 0) (fun s => spec_l01Rank_l1 a1 a2 a3 s.1 s.2.1 s.2.2) (fun (s : Int × (List Nat) × (List (List Int))) a w => match s with | (s2, s3, s4) => ∃ ρ v5 f6, Wd w0 ρ w ∧ Fr 144 a [(0, vI a0), (2, vI a2), (3, vI a3), (5, .pointer (some ((⟨g1, 0, none⟩ : Addr).add 0))), (9, v5), (10, vI 0), (11, vI s2)] ∧ Va ρ w 1 g1 39 (cForm.enc a1) ∧ Gd fI64 2 61 ρ w w0.heap.size 2 v5 f6 s3 s4) (fun (s : Int × (List Nat) × (List (List Int))) a w => match s with | (s2, s3, s4) => ∃ ρ v5 f6, Wd w0 ρ w ∧ Fr 144 a [(0, vI a0), (2, vI a2), (3, vI a3), (9, v5), (10, vI 0)] ∧ Gd fI64 2 61 ρ w w0.heap.size 2 v5 f6 s3 s4) ho1 ⟨_, _, _, hw, hf.sub ⟨rfl, rfl, rfl, rfl, rfl, rfl, rfl, trivial⟩, o1, o2⟩ ?_ ?_)
  · rintro ⟨s2, s3, s4⟩ lr a w ⟨ρ, v5, f6, hw, hf, o1, o2⟩ hF
    replace hF : spec_l01Rank_l1 a1 a2 a3 s2 s3 s4 = some lr := hF
    unfold spec_l01Rank_l1 at hF
    refine c_seq <| c_seq <| c_region ?_
    refine s_ hf (r_move hf rfl) fun a hf => ?_
    refine s_ hf (r_move hf rfl) fun a hf => ?_
    refine s_ hf (r_lss hf rfl rfl) fun a hf => ?_
    refine c_nt ?_
    rcases of_ite hF with ⟨hb7, hF⟩ | ⟨hb7, hF⟩
    rotate_left
    · refine c_iff hf rfl hb7 <| c_exit <| x_then ?_
      obtain rfl := Option.some.inj hF
      exact Rnd.stops ⟨_, _, _, hw, hf.sub ⟨rfl, rfl, rfl, rfl, rfl, trivial⟩, o2⟩
    refine c_ift hf rfl hb7 <| c_skip <| n_then <| c_seq <| c_block <| c_seq <| c_region ?_
    refine sx_ hf (r_lit (d := fI64) (xs := ([] : List Int)) (vs := []) 3 Try.underlying61 el2 (Nat.le_of_ble_eq_true rfl) (Nat.le_of_ble_eq_true rfl) hw hf rfl rfl rfl) fun a v3 w hf hΦ => ?_
    obtain ⟨ρ, hw, hE, o3⟩ := hΦ
    replace o1 := o1.ext hE
    replace o2 := o2.ext hE
    refine s_ hf (r_assign hf rfl) fun a hf => ?_
    refine c_nt <| c_seq <| c_seq <| c_region ?_
    refine s_ hf (r_assign hf rfl) fun a hf => ?_
    refine c_nt ?_
    obtain ⟨ol8, ho8, hG8⟩ := of_bind hF
    clear hF
    refine c_block (c_loop (id := 2) (fun s => spec_l01Rank_l8 a1 a3 s2 s.1 s.2) (fun (s : Int × (List Int)) a w => match s with | (s9, s10) => ∃ ρ v11, Wd w0 ρ w ∧ Fr 144 a [(0, vI a0), (2, vI a2), (3, vI a3), (5, .pointer (some ((⟨g1, 0, none⟩ : Addr).add 0))), (9, v5), (10, vI 0), (11, vI s2), (12, v11), (13, vI s9)] ∧ Va ρ w 1 g1 39 (cForm.enc a1) ∧ Gd fI64 2 61 ρ w w0.heap.size 2 v5 f6 s3 s4 ∧ O2 ρ w w0 3 v11 s10) (fun (s : Int × (List Int)) a w => match s with | (s9, s10) => ∃ ρ v11, Wd w0 ρ w ∧ Fr 144 a [(0, vI a0), (2, vI a2), (3, vI a3), (5, .pointer (some ((⟨g1, 0, none⟩ : Addr).add 0))), (9, v5), (10, vI 0), (11, vI s2), (12, v11)] ∧ Va ρ w 1 g1 39 (cForm.enc a1) ∧ Gd fI64 2 61 ρ w w0.heap.size 2 v5 f6 s3 s4 ∧ O2 ρ w w0 3 v11 s10) ho8 ⟨_, _, hw, hf.sub ⟨rfl, rfl, rfl, rfl, rfl, rfl, rfl, rfl, rfl, trivial⟩, o1, o2, o3⟩ ?_ ?_)
    · rintro ⟨s9, s10⟩ lr a w ⟨ρ, v11, hw, hf, o1, o2, o3⟩ hF
      replace hF : spec_l01Rank_l8 a1 a3 s2 s9 s10 = some lr := hF
      unfold spec_l01Rank_l8 at hF
      refine c_seq <| c_seq <| c_region ?_
      refine s_ hf (r_move hf rfl) fun a hf => ?_
      refine s_ hf (r_move hf rfl) fun a hf => ?_
      refine s_ hf (r_lss hf rfl rfl) fun a hf => ?_
      refine c_nt ?_
      rcases of_ite hF with ⟨hb12, hF⟩ | ⟨hb12, hF⟩
      rotate_left
      · refine c_iff hf rfl hb12 <| c_exit <| x_then ?_
        obtain rfl := Option.some.inj hF
        exact Rnd.stops ⟨_, _, hw, hf.sub ⟨rfl, rfl, rfl, rfl, rfl, rfl, rfl, rfl, trivial⟩, o1, o2, o3⟩
      refine c_ift hf rfl hb12 <| c_skip <| n_then <| c_seq <| c_block <| c_region ?_
      refine s_ hf (r_move hf rfl) fun a hf => ?_
      refine s_ hf (r_move hf rfl) fun a hf => ?_
      refine s_ hf (r_move hf rfl) fun a hf => ?_
      refine s_ hf (r_mul hf rfl rfl) fun a hf => ?_
      refine s_ hf (r_move hf rfl) fun a hf => ?_
      refine s_ hf (r_add hf rfl rfl) fun a hf => ?_
      obtain ⟨hc13, hF⟩ := of_guard hF
      refine s_ hf (r_indexAddr_arr Try.underlying39 sz5 hf rfl rfl hc13.1 hc13.2) fun a hf => ?_
      refine s_ hf (r_load_cell ty5 hf rfl (o1.cl.lens (Lens.vec 0 fU8 (w64 ((w64 (s2 * a3)) + s9)) hc13.1 hc13.2))) fun a hf => ?_
      refine s_ hf (r_conv_u8_i64 Try.underlying5 Try.underlying2 hf rfl) fun a hf => ?_
      refine sx_ hf (r_lit (d := fI64) (xs := ([((vg 0 a1 (w64 ((w64 (s2 * a3)) + s9))).toNat : Int)] : List Int)) (vs := [vI ((vg 0 a1 (w64 ((w64 (s2 * a3)) + s9))).toNat : Int)]) 4 Try.underlying61 el2 (Nat.le_of_ble_eq_true rfl) (Nat.le_of_ble_eq_true rfl) hw hf rfl rfl rfl) fun a v4 w hf hΦ => ?_
      obtain ⟨ρ, hw, hE, o4⟩ := hΦ
      replace o1 := o1.ext hE
      replace o2 := o2.ext hE
      replace o3 := o3.ext hE
      obtain ⟨hc14, hF⟩ := of_guard hF
      refine sx_ hf (r_append Try.underlying61 el2 hw (by decide) o3 o4.ro hc14 hf rfl rfl) fun a va15 w hf hΦ => ?_
      obtain ⟨ρ, hw, hA, o3⟩ := hΦ
      replace o1 := o1.adv hA (by decide)
      replace o2 := o2.adv hA (by decide) (fun _ => by unfold lab; omega)
      replace o4 := o4.adv hA (by decide)
      refine s_ hf (r_assign hf rfl) fun a hf => ?_
      refine c_nil <| n_block <| n_then <| c_region ?_
      refine s_ hf (r_move hf rfl) fun a hf => ?_
      refine s_ hf (r_add hf rfl rfl) fun a hf => ?_
      refine s_ hf (r_assign hf rfl) fun a hf => ?_
      refine c_nil ?_
      obtain rfl := Option.some.inj hF
      exact Rnd.goes ⟨_, _, hw, hf.sub ⟨rfl, rfl, rfl, rfl, rfl, rfl, rfl, rfl, rfl, trivial⟩, o1, o2, o3⟩
    rintro ⟨s9, s10⟩ a w hs ⟨ρ, v11, hw, hf, o1, o2, o3⟩
    subst hs
    have hF := hG8
    dsimp only at hF
    refine x_block <| n_then <| c_region ?_
    refine s_ hf (r_move hf rfl) fun a hf => ?_
    refine s_ hf (r_move hf rfl) fun a hf => ?_
    refine sx_ hf (r_glit 5 Try.underlying44 el61 hw hf rfl o3) fun a v5 w hf hΦ => ?_
    obtain ⟨ρ, hw, hE, o5⟩ := hΦ
    replace o1 := o1.ext hE
    replace o2 := o2.ext hE
    replace o3 := o3.ext hE
    obtain ⟨hc16, hF⟩ := of_guard hF
    refine sx_ hf (r_gapp' Try.underlying44 el61 hw (by decide) (by decide) (fun _ => by unfold lab; omega) o2 o5 o3 hc16 hf rfl rfl) fun a va17 w hf hΦ => ?_
    obtain ⟨f17, ρ, hw, hT, o2, hff17, hnu17⟩ := hΦ
    replace o1 := o1.tr (hT 1 (by decide) (by decide))
    rw [hnu17] at hf
    have hn18 : s4.length < (s4 ++ [s10]).length := by simp
    refine s_ hf (r_assign hf rfl) fun a hf => ?_
    refine c_nil <| n_block <| n_then <| c_region ?_
    refine s_ hf (r_move hf rfl) fun a hf => ?_
    refine s_ hf (r_add hf rfl rfl) fun a hf => ?_
    refine s_ hf (r_assign hf rfl) fun a hf => ?_
    refine c_nil ?_
    obtain rfl := Option.some.inj hF
    exact Rnd.goes ⟨_, _, _, hw, hf.sub ⟨rfl, rfl, rfl, rfl, rfl, rfl, rfl, trivial⟩, o1, o2⟩
  rintro ⟨s2, s3, s4⟩ a w hs ⟨ρ, v5, f6, hw, hf, o2⟩
  subst hs
  have hF := hG1
  dsimp only at hF
  refine x_block <| n_then <| c_seq <| c_seq <| c_region ?_
  refine s_ hf (r_assign hf rfl) fun a hf => ?_
  refine c_nt ?_
  obtain ⟨ol19, ho19, hG19⟩ := of_bind hF
  clear hF
  refine c_block (c_loop (id := 4) (fun s => spec_l01Rank_l19 a0 a2 a3 s.1 s.2.1 s.2.2.1 s.2.2.2) (fun (s : Int × Int × (List Nat) × (List (List Int))) a w => match s with | (s20, s21, s22, s23) => ∃ ρ f24, Wd w0 ρ w ∧ Fr 144 a [(0, vI a0), (2, vI a2), (3, vI a3), (9, v5), (10, vI s20), (14, vI s21)] ∧ Gd fI64 2 61 ρ w w0.heap.size 2 v5 f24 s22 s23) (fun (s : Int × Int × (List Nat) × (List (List Int))) a w => match s with | (s20, s21, s22, s23) => ∃ ρ, Wd w0 ρ w ∧ Fr 144 a [(10, vI s20)]) ho19 ⟨_, _, hw, hf.sub ⟨rfl, rfl, rfl, rfl, rfl, rfl, trivial⟩, o2⟩ ?_ ?_)
  · rintro ⟨s20, s21, s22, s23⟩ lr a w ⟨ρ, f24, hw, hf, o2⟩ hF
    replace hF : spec_l01Rank_l19 a0 a2 a3 s20 s21 s22 s23 = some lr := hF
    unfold spec_l01Rank_l19 at hF
    refine c_seq <| c_seq <| c_region ?_
    refine s_ hf (r_move hf rfl) fun a hf => ?_
    refine s_ hf (r_move hf rfl) fun a hf => ?_
    refine s_ hf (r_lss hf rfl rfl) fun a hf => ?_
    refine c_nt ?_
    rcases of_ite hF with ⟨hb25, hF⟩ | ⟨hb25, hF⟩
    rotate_left
    · refine c_iff hf rfl hb25 <| c_exit <| x_then ?_
      obtain rfl := Option.some.inj hF
      exact Rnd.stops ⟨_, hw, hf.sub ⟨rfl, trivial⟩⟩
    refine c_ift hf rfl hb25 <| c_skip <| n_then <| c_seq <| c_block <| c_seq <| c_region ?_
    refine s_ hf (r_move hf rfl) fun a hf => ?_
    refine s_ hf (r_assign hf rfl) fun a hf => ?_
    refine c_nt <| c_seq ?_
    obtain ⟨ol26, ho26, hG26⟩ := of_bind hF
    clear hF
    refine c_block (c_loop (id := 6) (fun s => spec_l01Rank_l26 a2 s21 s22 s23 s) (fun (s27 : Int) a w => ∃ ρ, Wd w0 ρ w ∧ Fr 144 a [(0, vI a0), (2, vI a2), (3, vI a3), (9, v5), (10, vI s20), (14, vI s21), (15, vI s27)] ∧ Gd fI64 2 61 ρ w w0.heap.size 2 v5 f24 s22 s23) (fun (s27 : Int) a w => ∃ ρ, Wd w0 ρ w ∧ Fr 144 a [(0, vI a0), (2, vI a2), (3, vI a3), (9, v5), (10, vI s20), (14, vI s21), (15, vI s27)] ∧ Gd fI64 2 61 ρ w w0.heap.size 2 v5 f24 s22 s23) ho26 ⟨_, hw, hf.sub ⟨rfl, rfl, rfl, rfl, rfl, rfl, rfl, trivial⟩, o2⟩ ?_ ?_)
    · rintro s27 lr a w ⟨ρ, hw, hf, o2⟩ hF
      replace hF : spec_l01Rank_l26 a2 s21 s22 s23 s27 = some lr := hF
      unfold spec_l01Rank_l26 at hF
      refine c_seq <| c_seq ?_
      obtain ⟨s29, hT28, hG28⟩ := of_bind hF
      clear hF
      refine c_meet (fun (s29 : Bool) a w => ∃ ρ, Wd w0 ρ w ∧ Fr 144 a [(0, vI a0), (2, vI a2), (3, vI a3), (9, v5), (10, vI s20), (14, vI s21), (15, vI s27), (67, .bool s29)] ∧ Gd fI64 2 61 ρ w w0.heap.size 2 v5 f24 s22 s23) s29 ?_ ?_
      · have hF := hT28
        refine c_region ?_
        refine s_ hf (r_move hf rfl) fun a hf => ?_
        refine s_ hf (r_move hf rfl) fun a hf => ?_
        refine s_ hf (r_lss hf rfl rfl) fun a hf => ?_
        refine s_ hf (r_move hf rfl) fun a hf => ?_
        rcases of_ite hF with ⟨hb30, hF⟩ | ⟨hb30, hF⟩
        rotate_left
        · refine st_no (b := false) hf rfl rfl rfl hb30 rfl (by decide) fun a hf => ?_
          refine st_no (b := false) hf rfl rfl rfl hb30 rfl (by decide) fun a hf => ?_
          refine st_no (b := false) hf rfl rfl rfl hb30 rfl (by decide) fun a hf => ?_
          refine st_no (b := false) hf rfl rfl rfl hb30 rfl (by decide) fun a hf => ?_
          refine st_no (b := false) hf rfl rfl rfl hb30 rfl (by decide) fun a hf => ?_
          refine st_no (b := false) hf rfl rfl rfl hb30 rfl (by decide) fun a hf => ?_
          refine st_no (b := false) hf rfl rfl rfl hb30 rfl (by decide) fun a hf => ?_
          refine st_no (b := false) hf rfl rfl rfl hb30 rfl (by decide) fun a hf => ?_
          refine s_ hf (r_pick (b := false) hf rfl hb30 rfl) fun a hf => ?_
          refine c_nil ⟨rfl, ?_⟩
          obtain rfl := Option.some.inj hF
          exact ⟨_, hw, hf.sub ⟨rfl, rfl, rfl, rfl, rfl, rfl, rfl, rfl, trivial⟩, o2⟩
        refine st_g (b := true) hf rfl rfl rfl hb30 rfl (by decide) (r_move hf rfl) fun a hf => ?_
        refine st_g (b := true) hf rfl rfl rfl hb30 rfl (by decide) (r_move hf rfl) fun a hf => ?_
        obtain ⟨hc31, hF⟩ := of_guard hF
        obtain ⟨ad32, hl32⟩ := Ow.ce (d := fRef f24) o2.out 0 hc31.1 hc31.2
        have hn32 := o2.lt_gl hc31.1 hc31.2
        refine st_g (b := true) hf rfl rfl rfl hb30 rfl (by decide) (r_idx Try.underlying44 sz61 hf rfl hl32.at_ rfl hc31.1 hc31.2) fun a hf => ?_
        refine st_g (b := true) hf rfl rfl rfl hb30 rfl (by decide) (r_load_cell ty61 hf rfl hl32.co.cl) fun a hf => ?_
        refine st_g (b := true) hf rfl rfl rfl hb30 rfl (by decide) (r_move hf rfl) fun a hf => ?_
        obtain ⟨hc33, hF⟩ := of_guard hF
        obtain ⟨ad34, hl34⟩ := Ow.ce (d := fI64) (o2.rowAt hn32) 0 hc33.1 hc33.2
        refine st_g (b := true) hf rfl rfl rfl hb30 rfl (by decide) (r_idx Try.underlying61 sz2 hf rfl hl34.at_ rfl hc33.1 hc33.2) fun a hf => ?_
        refine st_g (b := true) hf rfl rfl rfl hb30 rfl (by decide) (r_load_cell ty2 hf rfl hl34.co.cl) fun a hf => ?_
        refine st_g (b := true) hf rfl rfl rfl hb30 rfl (by decide) (r_eql hf rfl rfl) fun a hf => ?_
        refine s_ hf (r_pick (b := true) hf rfl hb30 rfl) fun a hf => ?_
        refine c_nil ⟨rfl, ?_⟩
        obtain rfl := Option.some.inj hF
        exact ⟨_, hw, hf.sub ⟨rfl, rfl, rfl, rfl, rfl, rfl, rfl, rfl, trivial⟩, o2⟩
      rintro a w ⟨ρ, hw, hf, o2⟩
      have hF := hG28
      refine n_then ?_
      rcases of_ite hF with ⟨hb35, hF⟩ | ⟨hb35, hF⟩
      rotate_left
      · refine c_iff hf rfl hb35 <| c_exit <| x_then ?_
        obtain rfl := Option.some.inj hF
        exact Rnd.stops ⟨_, hw, hf.sub ⟨rfl, rfl, rfl, rfl, rfl, rfl, rfl, trivial⟩, o2⟩
      refine c_ift hf rfl hb35 <| c_skip <| n_then <| c_block <| c_region ?_
      refine s_ hf (r_move hf rfl) fun a hf => ?_
      refine s_ hf (r_add hf rfl rfl) fun a hf => ?_
      refine s_ hf (r_assign hf rfl) fun a hf => ?_
      refine c_nil <| n_block ?_
      obtain rfl := Option.some.inj hF
      exact Rnd.goes ⟨_, hw, hf.sub ⟨rfl, rfl, rfl, rfl, rfl, rfl, rfl, trivial⟩, o2⟩
    rintro s27 a w hs ⟨ρ, hw, hf, o2⟩
    subst hs
    have hF := hG26
    dsimp only at hF
    refine x_block <| n_then <| c_seq <| c_seq <| c_region ?_
    refine s_ hf (r_move hf rfl) fun a hf => ?_
    refine s_ hf (r_move hf rfl) fun a hf => ?_
    refine s_ hf (r_eql hf rfl rfl) fun a hf => ?_
    refine c_nt ?_
    rcases of_ite hF with ⟨hb36, hF⟩ | ⟨hb36, hF⟩
    · refine c_ift hf rfl hb36 <| c_exit <| x_then <| x_block <| n_then <| c_region ?_
      refine s_ hf (r_move hf rfl) fun a hf => ?_
      refine s_ hf (r_add hf rfl rfl) fun a hf => ?_
      refine s_ hf (r_assign hf rfl) fun a hf => ?_
      refine c_nil ?_
      obtain rfl := Option.some.inj hF
      exact Rnd.goes ⟨_, _, hw, hf.sub ⟨rfl, rfl, rfl, rfl, rfl, rfl, trivial⟩, o2⟩
    refine c_iff hf rfl hb36 <| c_skip <| n_then <| c_seq <| c_region ?_
    refine s_ hf (r_move hf rfl) fun a hf => ?_
    refine s_ hf (r_move hf rfl) fun a hf => ?_
    obtain ⟨hc37, hF⟩ := of_guard hF
    obtain ⟨ad38, hl38⟩ := Ow.ce (d := fRef f24) o2.out 0 hc37.1 hc37.2
    have hn38 := o2.lt_gl hc37.1 hc37.2
    refine s_ hf (r_idx Try.underlying44 sz61 hf rfl hl38.at_ rfl hc37.1 hc37.2) fun a hf => ?_
    refine s_ hf (r_load_cell ty61 hf rfl hl38.co.cl) fun a hf => ?_
    refine s_ hf (r_assign hf rfl) fun a hf => ?_
    refine c_nt <| c_seq <| c_region ?_
    refine s_ hf (r_move hf rfl) fun a hf => ?_
    refine s_ hf (r_move hf rfl) fun a hf => ?_
    refine s_ hf (r_move hf rfl) fun a hf => ?_
    refine s_ hf (r_move hf rfl) fun a hf => ?_
    obtain ⟨hc39, hF⟩ := of_guard hF
    obtain ⟨ad40, hl40⟩ := Ow.ce (d := fRef f24) o2.out 0 hc39.1 hc39.2
    have hn40 := o2.lt_gl hc39.1 hc39.2
    refine s_ hf (r_idx Try.underlying44 sz61 hf rfl hl40.at_ rfl hc39.1 hc39.2) fun a hf => ?_
    refine s_ hf (r_load_cell ty61 hf rfl hl40.co.cl) fun a hf => ?_
    obtain ⟨ad41, hl41⟩ := Ow.ce (d := fRef f24) o2.out 0 hc37.1 hc37.2
    have hn41 := o2.lt_gl hc37.1 hc37.2
    refine s_ hf (r_idx Try.underlying44 sz61 hf rfl hl41.at_ rfl hc37.1 hc37.2) fun a hf => ?_
    refine sk_ hf (r_gset (p := s27) hw o2 hn40 hc37.1 hc37.2 hl41.at_ ty61 rfl hf rfl rfl) fun a w hf hΦ => ?_
    obtain ⟨hw, hA, o2⟩ := hΦ
    refine c_nt <| c_seq <| c_region ?_
    refine s_ hf (r_move hf rfl) fun a hf => ?_
    refine s_ hf (r_move hf rfl) fun a hf => ?_
    refine s_ hf (r_move hf rfl) fun a hf => ?_
    obtain ⟨hc42, hF⟩ := of_guard hF
    obtain ⟨ad43, hl43⟩ := Ow.ce (d := fRef f24) o2.out 0 hc42.1 hc42.2
    have hn43 := o2.lt_gl hc42.1 hc42.2
    refine s_ hf (r_idx Try.underlying44 sz61 hf rfl hl43.at_ rfl hc42.1 hc42.2) fun a hf => ?_
    refine sk_ hf (r_gset (p := s20) hw o2 hn38 hc42.1 hc42.2 hl43.at_ ty61 rfl hf rfl rfl) fun a w hf hΦ => ?_
    obtain ⟨hw, hA, o2⟩ := hΦ
    refine c_nt <| c_seq <| c_region ?_
    refine s_ hf (r_move hf rfl) fun a hf => ?_
    refine s_ hf (r_move hf rfl) fun a hf => ?_
    refine s_ hf (r_move hf rfl) fun a hf => ?_
    obtain ⟨hc44, hF⟩ := of_guard hF
    obtain ⟨ad45, hl45⟩ := Ow.ce (d := fI64) (o2.rowAt hn38) 0 hc44.1 hc44.2
    refine s_ hf (r_idx Try.underlying61 sz2 hf rfl hl45.at_ rfl hc44.1 hc44.2) fun a hf => ?_
    refine s_ hf (r_load_cell ty2 hf rfl hl45.co.cl) fun a hf => ?_
    obtain ⟨x46, hx47, hF⟩ := of_bind hF
    refine st_fn 19 hw hf rfl rfl (by decide) (r_fn en135 hf rfl) (spec_l01Inverse_ok  hx47) fun a v w ρ hf hw hE hN hΦ => ?_
    obtain rfl := hΦ
    replace o2 := o2.ext hE
    replace hl45 := hl45.ext hE
    refine s_ hf (r_assign hf rfl) fun a hf => ?_
    refine c_nt <| c_seq <| c_seq <| c_region ?_
    refine s_ hf (r_move hf rfl) fun a hf => ?_
    refine s_ hf (r_add hf rfl rfl) fun a hf => ?_
    refine s_ hf (r_assign hf rfl) fun a hf => ?_
    refine c_nt ?_
    obtain ⟨ol48, ho48, hG48⟩ := of_bind hF
    clear hF
    refine c_block (c_loop (id := 8) (fun s => spec_l01Rank_l48 a0 a2 a3 s21 s22 s27 x46 s.1 s.2.1 s.2.2) (fun (s : Int × (List Nat) × (List (List Int))) a w => match s with | (s49, s50, s51) => ∃ ρ f52, Wd w0 ρ w ∧ Fr 144 a [(0, vI a0), (2, vI a2), (3, vI a3), (9, v5), (10, vI s20), (14, vI s21), (16, (f52 (gl 0 s22 s27)).1), (17, vI x46), (18, vI s49)] ∧ Gd fI64 2 61 ρ w w0.heap.size 2 v5 f52 s50 s51 ∧ (gl 0 s22 s27) < s51.length) (fun (s : Int × (List Nat) × (List (List Int))) a w => match s with | (s49, s50, s51) => ∃ ρ f52, Wd w0 ρ w ∧ Fr 144 a [(0, vI a0), (2, vI a2), (3, vI a3), (9, v5), (10, vI s20), (14, vI s21)] ∧ Gd fI64 2 61 ρ w w0.heap.size 2 v5 f52 s50 s51) ho48 ⟨_, _, hw, hf.sub ⟨rfl, rfl, rfl, rfl, rfl, rfl, rfl, rfl, rfl, trivial⟩, o2, hn38⟩ ?_ ?_)
    · rintro ⟨s49, s50, s51⟩ lr a w ⟨ρ, f52, hw, hf, o2, hn38⟩ hF
      replace hF : spec_l01Rank_l48 a0 a2 a3 s21 s22 s27 x46 s49 s50 s51 = some lr := hF
      unfold spec_l01Rank_l48 at hF
      refine c_seq <| c_seq <| c_region ?_
      refine s_ hf (r_move hf rfl) fun a hf => ?_
      refine s_ hf (r_move hf rfl) fun a hf => ?_
      refine s_ hf (r_lss hf rfl rfl) fun a hf => ?_
      refine c_nt ?_
      rcases of_ite hF with ⟨hb53, hF⟩ | ⟨hb53, hF⟩
      rotate_left
      · refine c_iff hf rfl hb53 <| c_exit <| x_then ?_
        obtain rfl := Option.some.inj hF
        exact Rnd.stops ⟨_, _, hw, hf.sub ⟨rfl, rfl, rfl, rfl, rfl, rfl, trivial⟩, o2⟩
      refine c_ift hf rfl hb53 <| c_skip <| n_then <| c_seq <| c_block <| c_seq <| c_region ?_
      refine s_ hf (r_move hf rfl) fun a hf => ?_
      refine s_ hf (r_move hf rfl) fun a hf => ?_
      obtain ⟨hc54, hF⟩ := of_guard hF
      obtain ⟨ad55, hl55⟩ := Ow.ce (d := fRef f52) o2.out 0 hc54.1 hc54.2
      have hn55 := o2.lt_gl hc54.1 hc54.2
      refine s_ hf (r_idx Try.underlying44 sz61 hf rfl hl55.at_ rfl hc54.1 hc54.2) fun a hf => ?_
      refine s_ hf (r_load_cell ty61 hf rfl hl55.co.cl) fun a hf => ?_
      refine s_ hf (r_move hf rfl) fun a hf => ?_
      obtain ⟨hc56, hF⟩ := of_guard hF
      obtain ⟨ad57, hl57⟩ := Ow.ce (d := fI64) (o2.rowAt hn55) 0 hc56.1 hc56.2
      refine s_ hf (r_idx Try.underlying61 sz2 hf rfl hl57.at_ rfl hc56.1 hc56.2) fun a hf => ?_
      refine s_ hf (r_load_cell ty2 hf rfl hl57.co.cl) fun a hf => ?_
      refine s_ hf (r_move hf rfl) fun a hf => ?_
      refine s_ hf (r_mul hf rfl rfl) fun a hf => ?_
      refine s_ hf (r_move hf rfl) fun a hf => ?_
      obtain ⟨hc58, hF⟩ := of_guard hF
      refine s_ hf (r_rem hf rfl rfl hc58) fun a hf => ?_
      refine sx_ hf (r_lit (d := fI64) (xs := ([] : List Int)) (vs := []) 23 Try.underlying61 el2 (Nat.le_of_ble_eq_true rfl) (Nat.le_of_ble_eq_true rfl) hw hf rfl rfl rfl) fun a v23 w hf hΦ => ?_
      obtain ⟨ρ, hw, hE, o23⟩ := hΦ
      replace o2 := o2.ext hE
      replace hl55 := hl55.ext hE
      replace hl57 := hl57.ext hE
      refine s_ hf (r_assign hf rfl) fun a hf => ?_
      refine s_ hf (r_assign hf rfl) fun a hf => ?_
      refine c_nt <| c_seq <| c_seq <| c_region ?_
      refine s_ hf (r_assign hf rfl) fun a hf => ?_
      refine c_nt ?_
      obtain ⟨ol59, ho59, hG59⟩ := of_bind hF
      clear hF
      refine c_block (c_loop (id := 10) (fun s => spec_l01Rank_l59 a0 a3 s21 s22 s27 x46 s49 s50 s51 s.1 s.2) (fun (s : Int × (List Int)) a w => match s with | (s60, s61) => ∃ ρ v62, Wd w0 ρ w ∧ Fr 144 a [(0, vI a0), (2, vI a2), (3, vI a3), (9, v5), (10, vI s20), (14, vI s21), (16, (f52 (gl 0 s22 s27)).1), (17, vI x46), (18, vI s49), (19, vI ((w64 ((gl 0 (s51.getD (gl 0 s50 s49) []) s21) * x46)).tmod a0)), (20, v62), (21, vI s60)] ∧ Gd fI64 2 61 ρ w w0.heap.size 2 v5 f52 s50 s51 ∧ (gl 0 s22 s27) < s51.length ∧ O2 ρ w w0 23 v62 s61) (fun (s : Int × (List Int)) a w => match s with | (s60, s61) => ∃ ρ v62, Wd w0 ρ w ∧ Fr 144 a [(0, vI a0), (2, vI a2), (3, vI a3), (9, v5), (10, vI s20), (14, vI s21), (16, (f52 (gl 0 s22 s27)).1), (17, vI x46), (18, vI s49), (20, v62)] ∧ Gd fI64 2 61 ρ w w0.heap.size 2 v5 f52 s50 s51 ∧ (gl 0 s22 s27) < s51.length ∧ O2 ρ w w0 23 v62 s61) ho59 ⟨_, _, hw, hf.sub ⟨rfl, rfl, rfl, rfl, rfl, rfl, rfl, rfl, rfl, rfl, rfl, rfl, trivial⟩, o2, hn38, o23⟩ ?_ ?_)
      · rintro ⟨s60, s61⟩ lr a w ⟨ρ, v62, hw, hf, o2, hn38, o23⟩ hF
        replace hF : spec_l01Rank_l59 a0 a3 s21 s22 s27 x46 s49 s50 s51 s60 s61 = some lr := hF
        unfold spec_l01Rank_l59 at hF
        refine c_seq <| c_seq <| c_region ?_
        refine s_ hf (r_move hf rfl) fun a hf => ?_
        refine s_ hf (r_move hf rfl) fun a hf => ?_
        refine s_ hf (r_lss hf rfl rfl) fun a hf => ?_
        refine c_nt ?_
        rcases of_ite hF with ⟨hb63, hF⟩ | ⟨hb63, hF⟩
        rotate_left
        · refine c_iff hf rfl hb63 <| c_exit <| x_then ?_
          obtain rfl := Option.some.inj hF
          exact Rnd.stops ⟨_, _, hw, hf.sub ⟨rfl, rfl, rfl, rfl, rfl, rfl, rfl, rfl, rfl, rfl, trivial⟩, o2, hn38, o23⟩
        refine c_ift hf rfl hb63 <| c_skip <| n_then <| c_seq <| c_block ?_
        obtain ⟨hc65, hF⟩ := of_guard hF
        obtain ⟨hc67, hF⟩ := of_guard hF
        obtain ⟨x69, hx70, hF⟩ := of_bind hF
        replace hf : Fr 144 a [(0, vI a0), (2, vI a2), (3, vI a3), (9, v5), (10, vI s20), (14, vI s21), (16, (f52 (gl 0 s22 s27)).1), (17, vI x46), (18, vI s49), (19, vI ((w64 ((gl 0 (s51.getD (gl 0 s50 s49) []) s21) * x46)).tmod a0)), (20, v62), (21, vI s60)] := hf.sub ⟨rfl, rfl, rfl, rfl, rfl, rfl, rfl, rfl, rfl, rfl, rfl, rfl, trivial⟩
        refine c_drawL (h := 18) mixed (by kernel_rfl) (by kernel_rfl) (fun ρ w => Gd fI64 2 61 ρ w w0.heap.size 2 v5 f52 s50 s51 ∧ (gl 0 s22 s27) < s51.length ∧ O2 ρ w w0 23 v62 s61) ?_ [fun ρ w v => v62 = v, fun ρ w v => vI a0 = v, fun ρ w v => v5 = v, fun ρ w v => vI s49 = v, fun ρ w v => ∃ ad64, .pointer (some (ad64.add (s49.toNat * 1))) = v ∧ (gl 0 s50 s49) < s51.length ∧ Ce ρ w 2 v5 s50.length ad64 (s49.toNat * 1) ([(f52 (gl 0 s50 s49)).1]), fun ρ w v => (f52 (gl 0 s50 s49)).1 = v ∧ (gl 0 s50 s49) < s51.length, fun ρ w v => vI s60 = v, fun ρ w v => ∃ ad66, .pointer (some (ad66.add (s60.toNat * 1))) = v ∧ Ce ρ w (lab 2 (gl 0 s50 s49)) ((f52 (gl 0 s50 s49)).1) ((s51.getD (gl 0 s50 s49) []).length) ad66 (s60.toNat * 1) (fI64.enc (gl 0 (s51.getD (gl 0 s50 s49) []) s60)), fun ρ w v => vI (gl 0 (s51.getD (gl 0 s50 s49) []) s60) = v, fun ρ w v => vI ((w64 ((gl 0 (s51.getD (gl 0 s50 s49) []) s21) * x46)).tmod a0) = v, fun ρ w v => (f52 (gl 0 s22 s27)).1 = v, fun ρ w v => vI s60 = v, fun ρ w v => ∃ ad68, .pointer (some (ad68.add (s60.toNat * 1))) = v ∧ Ce ρ w (lab 2 (gl 0 s22 s27)) ((f52 (gl 0 s22 s27)).1) ((s51.getD (gl 0 s22 s27) []).length) ad68 (s60.toNat * 1) (fI64.enc (gl 0 (s51.getD (gl 0 s22 s27) []) s60)), fun ρ w v => vI (gl 0 (s51.getD (gl 0 s22 s27) []) s60) = v, fun ρ w v => vI (w64 (((w64 ((gl 0 (s51.getD (gl 0 s50 s49) []) s21) * x46)).tmod a0) * (gl 0 (s51.getD (gl 0 s22 s27) []) s60))) = v, fun ρ w v => vI (w64 ((gl 0 (s51.getD (gl 0 s50 s49) []) s60) - (w64 (((w64 ((gl 0 (s51.getD (gl 0 s50 s49) []) s21) * x46)).tmod a0) * (gl 0 (s51.getD (gl 0 s22 s27) []) s60))))) = v, fun ρ w v => vI x69 = v, fun ρ w v => ∃ v29, v29 = v ∧ O2 ρ w w0 29 v29 ([x69])] ?_ hw ⟨o2, hn38, o23⟩ hf ?_ ?_
        · intro ρ w ρ' w' hE hG
          obtain ⟨o2, hn38, o23⟩ := hG
          exact ⟨o2.ext hE, hn38, o23.ext hE⟩
        · exact LastsL.cons (fun _ _ _ _ _ _ h => h) <| LastsL.cons (fun _ _ _ _ _ _ h => h) <| LastsL.cons (fun _ _ _ _ _ _ h => h) <| LastsL.cons (fun _ _ _ _ _ _ h => h) <| LastsL.cons (fun _ _ _ _ _ hE h => by obtain ⟨ad64, h, hn64, hl64⟩ := h; exact ⟨_, h, hn64, hl64.ext hE⟩) <| LastsL.cons (fun _ _ _ _ _ hE h => by obtain ⟨h, hn64⟩ := h; exact ⟨h, hn64⟩) <| LastsL.cons (fun _ _ _ _ _ _ h => h) <| LastsL.cons (fun _ _ _ _ _ hE h => by obtain ⟨ad66, h, hl66⟩ := h; exact ⟨_, h, hl66.ext hE⟩) <| LastsL.cons (fun _ _ _ _ _ _ h => h) <| LastsL.cons (fun _ _ _ _ _ _ h => h) <| LastsL.cons (fun _ _ _ _ _ _ h => h) <| LastsL.cons (fun _ _ _ _ _ _ h => h) <| LastsL.cons (fun _ _ _ _ _ hE h => by obtain ⟨ad68, h, hl68⟩ := h; exact ⟨_, h, hl68.ext hE⟩) <| LastsL.cons (fun _ _ _ _ _ _ h => h) <| LastsL.cons (fun _ _ _ _ _ _ h => h) <| LastsL.cons (fun _ _ _ _ _ _ h => h) <| LastsL.cons (fun _ _ _ _ _ _ h => h) <| LastsL.cons (fun _ _ _ _ _ hE h => by obtain ⟨v29, h, o29⟩ := h; exact ⟨_, h, o29.ext hE⟩) <| LastsL.nil
        · refine StepsB.cons ?_ <| StepsB.cons ?_ <| StepsB.cons ?_ <| StepsB.cons ?_ <| StepsB.cons ?_ <| StepsB.cons ?_ <| StepsB.cons ?_ <| StepsB.cons ?_ <| StepsB.cons ?_ <| StepsB.cons ?_ <| StepsB.cons ?_ <| StepsB.cons ?_ <| StepsB.cons ?_ <| StepsB.cons ?_ <| StepsB.cons ?_ <| StepsB.cons ?_ <| StepsB.cons ?_ <| StepsB.cons ?_ <| StepsB.nil
          · intro ρ w a hw hG hf hd K hK
            obtain ⟨o2, hn38, o23⟩ := hG
            exact dv_ hK hw (wn rfl) (r_move hf rfl) rfl
          · intro ρ w a hw hG hf hd K hK
            obtain ⟨o2, hn38, o23⟩ := hG
            exact dv_ hK hw (wn rfl) (r_move hf rfl) rfl
          · intro ρ w a hw hG hf hd K hK
            obtain ⟨o2, hn38, o23⟩ := hG
            exact dv_ hK hw (wn rfl) (r_move hf rfl) rfl
          · intro ρ w a hw hG hf hd K hK
            obtain ⟨o2, hn38, o23⟩ := hG
            exact dv_ hK hw (wn rfl) (r_move hf rfl) rfl
          · intro ρ w a hw hG hf hd K hK
            obtain ⟨o2, hn38, o23⟩ := hG
            obtain ⟨_, hf, rfl⟩ := got (hd 2 (by kernel_rfl)) hf
            obtain ⟨_, hf, rfl⟩ := got (hd 3 (by kernel_rfl)) hf
            obtain ⟨ad64, hl64⟩ := Ow.ce (d := fRef f52) o2.out 0 hc54.1 hc54.2
            have hn64 := o2.lt_gl hc54.1 hc54.2
            exact dv_ hK hw (wn rfl) (r_idx Try.underlying44 sz61 hf rfl hl64.at_ rfl hc54.1 hc54.2) (ex_ <| an_ rfl <| an_ hn64 <| hl64)
          · intro ρ w a hw hG hf hd K hK
            obtain ⟨o2, hn38, o23⟩ := hG
            obtain ⟨_, hf, ⟨ad64, rfl, hn64, hl64⟩⟩ := got (hd 4 (by kernel_rfl)) hf
            exact dv_ hK hw (wn rfl) (r_load_cell ty61 hf rfl hl64.co.cl) (an_ rfl <| hn64)
          · intro ρ w a hw hG hf hd K hK
            obtain ⟨o2, hn38, o23⟩ := hG
            exact dv_ hK hw (wn rfl) (r_move hf rfl) rfl
          · intro ρ w a hw hG hf hd K hK
            obtain ⟨o2, hn38, o23⟩ := hG
            obtain ⟨_, hf, ⟨rfl, hn64⟩⟩ := got (hd 5 (by kernel_rfl)) hf
            obtain ⟨_, hf, rfl⟩ := got (hd 6 (by kernel_rfl)) hf
            obtain ⟨ad66, hl66⟩ := Ow.ce (d := fI64) (o2.rowAt hn64) 0 hc65.1 hc65.2
            exact dv_ hK hw (wn rfl) (r_idx Try.underlying61 sz2 hf rfl hl66.at_ rfl hc65.1 hc65.2) (ex_ <| an_ rfl <| hl66)
          · intro ρ w a hw hG hf hd K hK
            obtain ⟨o2, hn38, o23⟩ := hG
            obtain ⟨_, hf, ⟨ad66, rfl, hl66⟩⟩ := got (hd 7 (by kernel_rfl)) hf
            exact dv_ hK hw (wn rfl) (r_load_cell ty2 hf rfl hl66.co.cl) rfl
          · intro ρ w a hw hG hf hd K hK
            obtain ⟨o2, hn38, o23⟩ := hG
            exact dv_ hK hw (wn rfl) (r_move hf rfl) rfl
          · intro ρ w a hw hG hf hd K hK
            obtain ⟨o2, hn38, o23⟩ := hG
            exact dv_ hK hw (wn rfl) (r_move hf rfl) rfl
          · intro ρ w a hw hG hf hd K hK
            obtain ⟨o2, hn38, o23⟩ := hG
            exact dv_ hK hw (wn rfl) (r_move hf rfl) rfl
          · intro ρ w a hw hG hf hd K hK
            obtain ⟨o2, hn38, o23⟩ := hG
            obtain ⟨_, hf, rfl⟩ := got (hd 10 (by kernel_rfl)) hf
            obtain ⟨_, hf, rfl⟩ := got (hd 11 (by kernel_rfl)) hf
            obtain ⟨ad68, hl68⟩ := Ow.ce (d := fI64) (o2.rowAt hn38) 0 hc67.1 hc67.2
            exact dv_ hK hw (wn rfl) (r_idx Try.underlying61 sz2 hf rfl hl68.at_ rfl hc67.1 hc67.2) (ex_ <| an_ rfl <| hl68)
          · intro ρ w a hw hG hf hd K hK
            obtain ⟨o2, hn38, o23⟩ := hG
            obtain ⟨_, hf, ⟨ad68, rfl, hl68⟩⟩ := got (hd 12 (by kernel_rfl)) hf
            exact dv_ hK hw (wn rfl) (r_load_cell ty2 hf rfl hl68.co.cl) rfl
          · intro ρ w a hw hG hf hd K hK
            obtain ⟨o2, hn38, o23⟩ := hG
            obtain ⟨_, hf, rfl⟩ := got (hd 9 (by kernel_rfl)) hf
            obtain ⟨_, hf, rfl⟩ := got (hd 13 (by kernel_rfl)) hf
            exact dv_ hK hw (wn rfl) (r_mul hf rfl rfl) rfl
          · intro ρ w a hw hG hf hd K hK
            obtain ⟨o2, hn38, o23⟩ := hG
            obtain ⟨_, hf, rfl⟩ := got (hd 8 (by kernel_rfl)) hf
            obtain ⟨_, hf, rfl⟩ := got (hd 14 (by kernel_rfl)) hf
            exact dv_ hK hw (wn rfl) (r_sub hf rfl rfl) rfl
          · intro ρ w a hw hG hf hd K hK
            obtain ⟨o2, hn38, o23⟩ := hG
            obtain ⟨_, hf, rfl⟩ := got (hd 1 (by kernel_rfl)) hf
            obtain ⟨_, hf, rfl⟩ := got (hd 15 (by kernel_rfl)) hf
            refine dc_ hK hw (wn rfl) (r_fn en129 hf rfl) (spec_l01Mod_ok  hx70) fun v w' hΦ => ?_
            obtain ⟨hb, hΦ⟩ := hΦ
            obtain rfl := hΦ
            have hE := Ext.new (ρ := ρ) 28 hb
            exact ⟨_, hw.new 28 hb, hE, rfl⟩
          · intro ρ w a hw hG hf hd K hK
            obtain ⟨o2, hn38, o23⟩ := hG
            obtain ⟨_, hf, rfl⟩ := got (hd 16 (by kernel_rfl)) hf
            refine dx_ hK hw (wn rfl) (r_lit (d := fI64) (xs := ([x69] : List Int)) (vs := [vI x69]) 29 Try.underlying61 el2 (Nat.le_of_ble_eq_true rfl) (Nat.le_of_ble_eq_true rfl) hw hf rfl rfl rfl) fun v29 w' hΦ => ?_
            obtain ⟨ρ, hw, hE, o29⟩ := hΦ
            exact ⟨_, hw, hE, ex_ <| an_ rfl <| o29⟩
        intro ρ w a hw hG hf hd
        obtain ⟨o2, hn38, o23⟩ := hG
        obtain ⟨_, hf, rfl⟩ := got (hd 0 (by decide)) hf
        obtain ⟨_, hf, ⟨v29, rfl, o29⟩⟩ := got (hd 17 (by decide)) hf
        obtain ⟨hc71, hF⟩ := of_guard hF
        refine sx_ hf (r_append Try.underlying61 el2 hw (by decide) o23 o29.ro hc71 hf rfl rfl) fun a va72 w hf hΦ => ?_
        obtain ⟨ρ, hw, hA, o23⟩ := hΦ
        replace o2 := o2.adv hA (by decide) (fun _ => by unfold lab; omega)
        replace o29 := o29.adv hA (by decide)
        refine s_ hf (r_assign hf rfl) fun a hf => ?_
        refine c_nil <| n_block <| n_then <| c_region ?_
        refine s_ hf (r_move hf rfl) fun a hf => ?_
        refine s_ hf (r_add hf rfl rfl) fun a hf => ?_
        refine s_ hf (r_assign hf rfl) fun a hf => ?_
        refine c_nil ?_
        obtain rfl := Option.some.inj hF
        exact Rnd.goes ⟨_, _, hw, hf.sub ⟨rfl, rfl, rfl, rfl, rfl, rfl, rfl, rfl, rfl, rfl, rfl, rfl, trivial⟩, o2, hn38, o23⟩
      rintro ⟨s60, s61⟩ a w hs ⟨ρ, v62, hw, hf, o2, hn38, o23⟩
      subst hs
      have hF := hG59
      dsimp only at hF
      refine x_block <| n_then <| c_region ?_
      refine s_ hf (r_move hf rfl) fun a hf => ?_
      refine s_ hf (r_move hf rfl) fun a hf => ?_
      refine s_ hf (r_move hf rfl) fun a hf => ?_
      obtain ⟨ad73, hl73⟩ := Ow.ce (d := fRef f52) o2.out 0 hc54.1 hc54.2
      have hn73 := o2.lt_gl hc54.1 hc54.2
      refine s_ hf (r_idx Try.underlying44 sz61 hf rfl hl73.at_ rfl hc54.1 hc54.2) fun a hf => ?_
      refine sk_ hf (r_gput (p := s49) hw (by decide) (by decide) (fun _ => by unfold lab; omega) o2 o23 hc54.1 hc54.2 hl73.at_ ty61 rfl hf rfl rfl) fun a w hf hΦ => ?_
      obtain ⟨f74, ρ, hw, hT, o2, hff74, hnu74⟩ := hΦ
      rw [hff74 _ hn38] at hf
      rw [hnu74] at hf
      replace hn38 : (gl 0 s22 s27) < (s51 ++ [s61]).length := by simp only [List.length_append, List.length_set]; omega
      replace hn73 : (gl 0 s50 s49) < (s51 ++ [s61]).length := by simp only [List.length_append, List.length_set]; omega
      have hn75 : s51.length < (s51 ++ [s61]).length := by simp
      refine c_nil <| n_block <| n_then <| c_region ?_
      refine s_ hf (r_move hf rfl) fun a hf => ?_
      refine s_ hf (r_add hf rfl rfl) fun a hf => ?_
      refine s_ hf (r_assign hf rfl) fun a hf => ?_
      refine c_nil ?_
      obtain rfl := Option.some.inj hF
      exact Rnd.goes ⟨_, _, hw, hf.sub ⟨rfl, rfl, rfl, rfl, rfl, rfl, rfl, rfl, rfl, trivial⟩, o2, hn38⟩
    rintro ⟨s49, s50, s51⟩ a w hs ⟨ρ, f52, hw, hf, o2⟩
    subst hs
    have hF := hG48
    dsimp only at hF
    refine x_block <| n_then <| c_region ?_
    refine s_ hf (r_move hf rfl) fun a hf => ?_
    refine s_ hf (r_add hf rfl rfl) fun a hf => ?_
    refine s_ hf (r_assign hf rfl) fun a hf => ?_
    refine c_nil <| n_block <| n_then <| c_region ?_
    refine s_ hf (r_move hf rfl) fun a hf => ?_
    refine s_ hf (r_add hf rfl rfl) fun a hf => ?_
    refine s_ hf (r_assign hf rfl) fun a hf => ?_
    refine c_nil ?_
    obtain rfl := Option.some.inj hF
    exact Rnd.goes ⟨_, _, hw, hf.sub ⟨rfl, rfl, rfl, rfl, rfl, rfl, trivial⟩, o2⟩
  rintro ⟨s20, s21, s22, s23⟩ a w hs ⟨ρ, hw, hf⟩
  subst hs
  have hF := hG19
  dsimp only at hF
  refine x_block <| n_then <| c_seq <| c_region ?_
  refine s_ hf (r_move hf rfl) fun a hf => ?_
  refine s_ hf (r_assign hf rfl) fun a hf => ?_
  refine c_nt <| c_retc ?_
  obtain rfl := Option.some.inj hF
  refine c_ret hf (res_tmp Try.results91 hf rfl) ?_
  exact ⟨_, rfl, hw.below, rfl⟩
/-! f29 -/
noncomputable def spec_RanksOf_l4 (a0 : Sch) (s5 : Int) (s6 : List Nat) (s7 : List (List Int)) : Option (LR (Int × (List Nat) × (List (List Int))) (List (List Int) × Int)) :=
  if (decide (s5 < (a0.ps.length : Int))) = true then (if 0 ≤ s5 ∧ s5 < (a0.ps.length : Int) then ((spec_l01Rank a0.p ((gl zProd a0.ps s5).1) a0.n a0.m).bind fun x13 => (spec_l01Rank a0.p ((gl zProd a0.ps s5).2.1) a0.m a0.k).bind fun x15 => (spec_l01Rank a0.p ((gl zProd a0.ps s5).2.2) a0.n a0.k).bind fun x17 => if (s6.length + 1) * 24 ≤ 140737488355328 then (some (.next (w64 (s5 + 1), (s6 ++ [s7.length]), (s7 ++ [[x13, x15, x17]])))) else none) else none) else (some (.stop (s5, s6, s7)))
noncomputable def spec_RanksOf (a0 : Sch) : Option (List (List Int) × Int) :=
  (spec_l01Is a0).bind fun x1 => if (!x1) = true then (some ((([] : List (List Int)), 1))) else ((iter (fun s => spec_RanksOf_l4 a0 s.1 s.2.1 s.2.2) (0, ([] : List Nat), ([] : List (List Int)))).bind fun o => match o with | .stop (s5, s6, s7) => (some (((gi s6 s7), 0))) | .ret r => some r | .next _ => none)
theorem spec_RanksOf_ok {w0 : World} {a0 : Sch} {va0 : Value} (h0 : Ro (kf cProd) w0 va0 a0.ps) {r : List (List Int) × Int} (hF : spec_RanksOf a0 = some r) :
    Calls Try.prog 29 [.agg ([vI a0.p, vI a0.n, vI a0.m, vI a0.k, va0]).toArray].toArray w0 fun e w => ∃ v, e = .returned v ∧ Below w0.heap.size w0 w ∧ ∃ u0, .tuple #[u0, .int .i64 r.2] = v ∧ Fresh (Kd.slice 2 (kf fI64)) 61 w0 w u0 r.1 := by
  refine calls_of (k := 55) Try.func29 rfl rfl (Nat.le_of_ble_eq_true rfl) fun a hf => ?_
  replace hf : Fr 55 a [(0, .agg ([vI a0.p, vI a0.n, vI a0.m, vI a0.k, va0]).toArray)] := hf
  refine c_start fun w ρ hw => ?_
  unfold spec_RanksOf at hF
  refine c_seq <| c_region ?_
  refine sx_ hf (r_box (cs := [vI a0.p, vI a0.n, vI a0.m, vI a0.k, va0]) 1 hw hf rfl rfl) fun a v w hf hΦ => ?_
  obtain ⟨g1, ρ, rfl, hw, hE, o1⟩ := hΦ
  have o2 : Ow (Kd.slice 2 (kf fI64)) 61 ρ w w0.heap.size 2 (.slice none 0 0) [] := Ow.nil _ _ _ _ _ _
  refine s_ hf (r_assign hf rfl) fun a hf => ?_
  refine s_ hf (r_assign hf rfl) fun a hf => ?_
  refine c_nt <| c_seq <| c_seq <| c_region ?_
  refine s_ hf (r_load_agg ty28 hf rfl o1.cl rfl) fun a hf => ?_
  obtain ⟨x1, hx2, hF⟩ := of_bind hF
  refine st_fn 3 hw hf rfl rfl (by decide) (r_fn en69 hf rfl) (spec_l01Is_ok (a0 := a0) (h0.now hw) hx2) fun a v w ρ hf hw hE hN hΦ => ?_
  obtain rfl := hΦ
  replace o1 := o1.ext hE
  replace o2 := o2.ext hE
  refine s_ hf (r_not hf rfl) fun a hf => ?_
  refine c_nt ?_
  rcases of_ite hF with ⟨hb3, hF⟩ | ⟨hb3, hF⟩
  · refine c_ift hf rfl hb3 <| c_seq <| c_region ?_
    have o4 : Ow (Kd.slice 2 (kf fI64)) 61 ρ w w0.heap.size 4 (.slice none 0 0) [] := Ow.nil _ _ _ _ _ _
    refine s_ hf (r_assign hf rfl) fun a hf => ?_
    refine s_ hf (r_assign hf rfl) fun a hf => ?_
    refine c_nt <| c_retc ?_
    obtain rfl := Option.some.inj hF
    refine r_then <| c_ret hf (res_tt Try.results29 hf rfl rfl) ?_
    exact ⟨_, rfl, hw.below, ⟨_, rfl, o4.out⟩⟩
  refine c_iff hf rfl hb3 <| c_skip <| n_then <| c_seq <| c_region ?_
  refine sx_ hf (r_lit_none (d := (Kd.slice 2 (kf fI64))) 5 Try.underlying44 el61 hw) fun a v5 w hf hΦ => ?_
  obtain ⟨ρ, hw, hE, o5⟩ := hΦ
  replace o1 := o1.ext hE
  replace o2 := o2.ext hE
  replace o5 : Gd fI64 2 61 ρ w w0.heap.size 5 v5 (fun _ => (⟨.bool false, rfl⟩ : V1)) ([] : List Nat) ([] : List (List Int)) := Gd.empty o5 rfl (by decide) _
  refine s_ hf (r_assign hf rfl) fun a hf => ?_
  refine c_nt <| c_seq <| c_seq <| c_region ?_
  refine s_ hf (r_assign hf rfl) fun a hf => ?_
  refine c_nt ?_
  obtain ⟨ol4, ho4, hG4⟩ := of_bind hF
  clear hF
  refine c_block (c_loop (id := 0) (fun s => spec_RanksOf_l4 a0 s.1 s.2.1 s.2.2) (fun (s : Int × (List Nat) × (List (List Int))) a w => match s with | (s5, s6, s7) => ∃ ρ v8 f9, Wd w0 ρ w ∧ Fr 55 a [(1, .pointer (some ((⟨g1, 0, none⟩ : Addr).add 0))), (4, v8), (5, vI s5)] ∧ Va ρ w 1 g1 28 ([vI a0.p, vI a0.n, vI a0.m, vI a0.k, va0]) ∧ Gd fI64 2 61 ρ w w0.heap.size 5 v8 f9 s6 s7) (fun (s : Int × (List Nat) × (List (List Int))) a w => match s with | (s5, s6, s7) => ∃ ρ v8 f9, Wd w0 ρ w ∧ Fr 55 a [(4, v8)] ∧ Gd fI64 2 61 ρ w w0.heap.size 5 v8 f9 s6 s7) ho4 ⟨_, _, _, hw, hf.sub ⟨rfl, rfl, rfl, trivial⟩, o1, o5⟩ ?_ ?_)
  · rintro ⟨s5, s6, s7⟩ lr a w ⟨ρ, v8, f9, hw, hf, o1, o5⟩ hF
    replace hF : spec_RanksOf_l4 a0 s5 s6 s7 = some lr := hF
    unfold spec_RanksOf_l4 at hF
    refine c_seq <| c_seq <| c_region ?_
    refine s_ hf (r_move hf rfl) fun a hf => ?_
    refine s_ hf (r_fa fa28_4 hf rfl) fun a hf => ?_
    refine s_ hf (r_load_cell ty26 hf rfl (o1.cl.at_ 4 _ rfl)) fun a hf => ?_
    refine s_ hf (r_len Try.underlying26 (h0.now hw) hf rfl) fun a hf => ?_
    refine s_ hf (r_lss hf rfl rfl) fun a hf => ?_
    refine c_nt ?_
    rcases of_ite hF with ⟨hb10, hF⟩ | ⟨hb10, hF⟩
    rotate_left
    · refine c_iff hf rfl hb10 <| c_exit <| x_then ?_
      obtain rfl := Option.some.inj hF
      exact Rnd.stops ⟨_, _, _, hw, hf.sub ⟨rfl, trivial⟩, o5⟩
    refine c_ift hf rfl hb10 <| c_skip <| n_then <| c_seq <| c_block <| c_seq <| c_region ?_
    refine s_ hf (r_fa fa28_4 hf rfl) fun a hf => ?_
    refine s_ hf (r_load_cell ty26 hf rfl (o1.cl.at_ 4 _ rfl)) fun a hf => ?_
    refine s_ hf (r_move hf rfl) fun a hf => ?_
    obtain ⟨hc11, hF⟩ := of_guard hF
    obtain ⟨ad12, c12, he12, hl12⟩ := Ro.el cProd h0 zProd hc11.1 hc11.2
    refine s_ hf (r_idx Try.underlying26 sz78 hf rfl ⟨_, he12⟩ rfl hc11.1 hc11.2) fun a hf => ?_
    refine s_ hf (r_load_agg ty78 hf rfl (hl12.below hw.below) (cProd.len _)) fun a hf => ?_
    refine sx_ hf (r_alloc (cs := cProd.enc zProd) 6 ze78 rfl hw) fun a v w hf hΦ => ?_
    obtain ⟨g6, ρ, rfl, hw, hE, o6⟩ := hΦ
    replace o1 := o1.ext hE
    replace o5 := o5.ext hE
    refine sk_ hf (r_store_w (cs' := cProd.enc (gl zProd a0.ps s5)) hw o6 (by decide) ty78 (cProd.len _) (cProd.len _) (cProd.one _) hf rfl rfl rfl) fun a w hf hΦ => ?_
    obtain ⟨hw, hA, o6⟩ := hΦ
    replace o1 := o1.adv hA (by decide)
    replace o5 := o5.adv hA (by decide) (fun _ => by unfold lab; omega)
    refine c_nt ?_
    obtain ⟨x13, hx14, hF⟩ := of_bind hF
    obtain ⟨x15, hx16, hF⟩ := of_bind hF
    obtain ⟨x17, hx18, hF⟩ := of_bind hF
    replace hf : Fr 55 a [(1, .pointer (some ((⟨g1, 0, none⟩ : Addr).add 0))), (4, v8), (5, vI s5), (6, .pointer (some ((⟨g6, 0, none⟩ : Addr).add 0)))] := hf.sub ⟨rfl, rfl, rfl, rfl, trivial⟩
    refine c_drawL (h := 30) mixed (by kernel_rfl) (by kernel_rfl) (fun ρ w => Va ρ w 1 g1 28 ([vI a0.p, vI a0.n, vI a0.m, vI a0.k, va0]) ∧ Gd fI64 2 61 ρ w w0.heap.size 5 v8 f9 s6 s7 ∧ Va ρ w 6 g6 78 (cProd.enc (gl zProd a0.ps s5))) ?_ [fun ρ w v => v8 = v, fun ρ w v => .pointer (some ((⟨g1, 0, none⟩ : Addr).add (0 + 0))) = v, fun ρ w v => vI a0.p = v, fun ρ w v => .pointer (some ((⟨g6, 0, none⟩ : Addr).add (0 + 0))) = v, fun ρ w v => .agg (cForm.enc ((gl zProd a0.ps s5).1)).toArray = v, fun ρ w v => .pointer (some ((⟨g1, 0, none⟩ : Addr).add (0 + 1))) = v, fun ρ w v => vI a0.n = v, fun ρ w v => .pointer (some ((⟨g1, 0, none⟩ : Addr).add (0 + 2))) = v, fun ρ w v => vI a0.m = v, fun ρ w v => vI x13 = v, fun ρ w v => .pointer (some ((⟨g1, 0, none⟩ : Addr).add (0 + 0))) = v, fun ρ w v => vI a0.p = v, fun ρ w v => .pointer (some ((⟨g6, 0, none⟩ : Addr).add (0 + 9))) = v, fun ρ w v => .agg (cForm.enc ((gl zProd a0.ps s5).2.1)).toArray = v, fun ρ w v => .pointer (some ((⟨g1, 0, none⟩ : Addr).add (0 + 2))) = v, fun ρ w v => vI a0.m = v, fun ρ w v => .pointer (some ((⟨g1, 0, none⟩ : Addr).add (0 + 3))) = v, fun ρ w v => vI a0.k = v, fun ρ w v => vI x15 = v, fun ρ w v => .pointer (some ((⟨g1, 0, none⟩ : Addr).add (0 + 0))) = v, fun ρ w v => vI a0.p = v, fun ρ w v => .pointer (some ((⟨g6, 0, none⟩ : Addr).add (0 + 18))) = v, fun ρ w v => .agg (cForm.enc ((gl zProd a0.ps s5).2.2)).toArray = v, fun ρ w v => .pointer (some ((⟨g1, 0, none⟩ : Addr).add (0 + 1))) = v, fun ρ w v => vI a0.n = v, fun ρ w v => .pointer (some ((⟨g1, 0, none⟩ : Addr).add (0 + 3))) = v, fun ρ w v => vI a0.k = v, fun ρ w v => vI x17 = v, fun ρ w v => ∃ v10, v10 = v ∧ O2 ρ w w0 10 v10 ([x13, x15, x17]), fun ρ w v => ∃ v10 v11, v11 = v ∧ O2 ρ w w0 10 v10 ([x13, x15, x17]) ∧ Gl 61 ρ w w0.heap.size 11 v11 v10] ?_ hw ⟨o1, o5, o6⟩ hf ?_ ?_
    · intro ρ w ρ' w' hE hG
      obtain ⟨o1, o5, o6⟩ := hG
      exact ⟨o1.ext hE, o5.ext hE, o6.ext hE⟩
    · exact LastsL.cons (fun _ _ _ _ _ _ h => h) <| LastsL.cons (fun _ _ _ _ _ _ h => h) <| LastsL.cons (fun _ _ _ _ _ _ h => h) <| LastsL.cons (fun _ _ _ _ _ _ h => h) <| LastsL.cons (fun _ _ _ _ _ _ h => h) <| LastsL.cons (fun _ _ _ _ _ _ h => h) <| LastsL.cons (fun _ _ _ _ _ _ h => h) <| LastsL.cons (fun _ _ _ _ _ _ h => h) <| LastsL.cons (fun _ _ _ _ _ _ h => h) <| LastsL.cons (fun _ _ _ _ _ _ h => h) <| LastsL.cons (fun _ _ _ _ _ _ h => h) <| LastsL.cons (fun _ _ _ _ _ _ h => h) <| LastsL.cons (fun _ _ _ _ _ _ h => h) <| LastsL.cons (fun _ _ _ _ _ _ h => h) <| LastsL.cons (fun _ _ _ _ _ _ h => h) <| LastsL.cons (fun _ _ _ _ _ _ h => h) <| LastsL.cons (fun _ _ _ _ _ _ h => h) <| LastsL.cons (fun _ _ _ _ _ _ h => h) <| LastsL.cons (fun _ _ _ _ _ _ h => h) <| LastsL.cons (fun _ _ _ _ _ _ h => h) <| LastsL.cons (fun _ _ _ _ _ _ h => h) <| LastsL.cons (fun _ _ _ _ _ _ h => h) <| LastsL.cons (fun _ _ _ _ _ _ h => h) <| LastsL.cons (fun _ _ _ _ _ _ h => h) <| LastsL.cons (fun _ _ _ _ _ _ h => h) <| LastsL.cons (fun _ _ _ _ _ _ h => h) <| LastsL.cons (fun _ _ _ _ _ _ h => h) <| LastsL.cons (fun _ _ _ _ _ _ h => h) <| LastsL.cons (fun _ _ _ _ _ hE h => by obtain ⟨v10, h, o10⟩ := h; exact ⟨_, h, o10.ext hE⟩) <| LastsL.cons (fun _ _ _ _ _ hE h => by obtain ⟨v10, v11, h, o10, o11⟩ := h; exact ⟨_, _, h, o10.ext hE, o11.ext hE⟩) <| LastsL.nil
    · refine StepsB.cons ?_ <| StepsB.cons ?_ <| StepsB.cons ?_ <| StepsB.cons ?_ <| StepsB.cons ?_ <| StepsB.cons ?_ <| StepsB.cons ?_ <| StepsB.cons ?_ <| StepsB.cons ?_ <| StepsB.cons ?_ <| StepsB.cons ?_ <| StepsB.cons ?_ <| StepsB.cons ?_ <| StepsB.cons ?_ <| StepsB.cons ?_ <| StepsB.cons ?_ <| StepsB.cons ?_ <| StepsB.cons ?_ <| StepsB.cons ?_ <| StepsB.cons ?_ <| StepsB.cons ?_ <| StepsB.cons ?_ <| StepsB.cons ?_ <| StepsB.cons ?_ <| StepsB.cons ?_ <| StepsB.cons ?_ <| StepsB.cons ?_ <| StepsB.cons ?_ <| StepsB.cons ?_ <| StepsB.cons ?_ <| StepsB.nil
      · intro ρ w a hw hG hf hd K hK
        obtain ⟨o1, o5, o6⟩ := hG
        exact dv_ hK hw (wn rfl) (r_move hf rfl) rfl
      · intro ρ w a hw hG hf hd K hK
        obtain ⟨o1, o5, o6⟩ := hG
        exact dv_ hK hw (wn rfl) (r_fa fa28_0 hf rfl) rfl
      · intro ρ w a hw hG hf hd K hK
        obtain ⟨o1, o5, o6⟩ := hG
        obtain ⟨_, hf, rfl⟩ := got (hd 1 (by kernel_rfl)) hf
        exact dv_ hK hw (wn rfl) (r_load_cell ty2 hf rfl (o1.cl.at_ 0 _ rfl)) rfl
      · intro ρ w a hw hG hf hd K hK
        obtain ⟨o1, o5, o6⟩ := hG
        exact dv_ hK hw (wn rfl) (r_fa fa78_0 hf rfl) rfl
      · intro ρ w a hw hG hf hd K hK
        obtain ⟨o1, o5, o6⟩ := hG
        obtain ⟨_, hf, rfl⟩ := got (hd 3 (by kernel_rfl)) hf
        exact dv_ hK hw (wn rfl) (r_load_agg ty39 hf rfl (o6.cl.lens lProd_0) (cForm.len _)) rfl
      · intro ρ w a hw hG hf hd K hK
        obtain ⟨o1, o5, o6⟩ := hG
        exact dv_ hK hw (wn rfl) (r_fa fa28_1 hf rfl) rfl
      · intro ρ w a hw hG hf hd K hK
        obtain ⟨o1, o5, o6⟩ := hG
        obtain ⟨_, hf, rfl⟩ := got (hd 5 (by kernel_rfl)) hf
        exact dv_ hK hw (wn rfl) (r_load_cell ty2 hf rfl (o1.cl.at_ 1 _ rfl)) rfl
      · intro ρ w a hw hG hf hd K hK
        obtain ⟨o1, o5, o6⟩ := hG
        exact dv_ hK hw (wn rfl) (r_fa fa28_2 hf rfl) rfl
      · intro ρ w a hw hG hf hd K hK
        obtain ⟨o1, o5, o6⟩ := hG
        obtain ⟨_, hf, rfl⟩ := got (hd 7 (by kernel_rfl)) hf
        exact dv_ hK hw (wn rfl) (r_load_cell ty2 hf rfl (o1.cl.at_ 2 _ rfl)) rfl
      · intro ρ w a hw hG hf hd K hK
        obtain ⟨o1, o5, o6⟩ := hG
        obtain ⟨_, hf, rfl⟩ := got (hd 2 (by kernel_rfl)) hf
        obtain ⟨_, hf, rfl⟩ := got (hd 4 (by kernel_rfl)) hf
        obtain ⟨_, hf, rfl⟩ := got (hd 6 (by kernel_rfl)) hf
        obtain ⟨_, hf, rfl⟩ := got (hd 8 (by kernel_rfl)) hf
        refine dc_ hK hw (wn rfl) (r_fn en91 hf rfl) (spec_l01Rank_ok  hx14) fun v w' hΦ => ?_
        obtain ⟨hb, hΦ⟩ := hΦ
        obtain rfl := hΦ
        have hE := Ext.new (ρ := ρ) 7 hb
        exact ⟨_, hw.new 7 hb, hE, rfl⟩
      · intro ρ w a hw hG hf hd K hK
        obtain ⟨o1, o5, o6⟩ := hG
        exact dv_ hK hw (wn rfl) (r_fa fa28_0 hf rfl) rfl
      · intro ρ w a hw hG hf hd K hK
        obtain ⟨o1, o5, o6⟩ := hG
        obtain ⟨_, hf, rfl⟩ := got (hd 10 (by kernel_rfl)) hf
        exact dv_ hK hw (wn rfl) (r_load_cell ty2 hf rfl (o1.cl.at_ 0 _ rfl)) rfl
      · intro ρ w a hw hG hf hd K hK
        obtain ⟨o1, o5, o6⟩ := hG
        exact dv_ hK hw (wn rfl) (r_fa fa78_1 hf rfl) rfl
      · intro ρ w a hw hG hf hd K hK
        obtain ⟨o1, o5, o6⟩ := hG
        obtain ⟨_, hf, rfl⟩ := got (hd 12 (by kernel_rfl)) hf
        exact dv_ hK hw (wn rfl) (r_load_agg ty39 hf rfl (o6.cl.lens lProd_1) (cForm.len _)) rfl
      · intro ρ w a hw hG hf hd K hK
        obtain ⟨o1, o5, o6⟩ := hG
        exact dv_ hK hw (wn rfl) (r_fa fa28_2 hf rfl) rfl
      · intro ρ w a hw hG hf hd K hK
        obtain ⟨o1, o5, o6⟩ := hG
        obtain ⟨_, hf, rfl⟩ := got (hd 14 (by kernel_rfl)) hf
        exact dv_ hK hw (wn rfl) (r_load_cell ty2 hf rfl (o1.cl.at_ 2 _ rfl)) rfl
      · intro ρ w a hw hG hf hd K hK
        obtain ⟨o1, o5, o6⟩ := hG
        exact dv_ hK hw (wn rfl) (r_fa fa28_3 hf rfl) rfl
      · intro ρ w a hw hG hf hd K hK
        obtain ⟨o1, o5, o6⟩ := hG
        obtain ⟨_, hf, rfl⟩ := got (hd 16 (by kernel_rfl)) hf
        exact dv_ hK hw (wn rfl) (r_load_cell ty2 hf rfl (o1.cl.at_ 3 _ rfl)) rfl
      · intro ρ w a hw hG hf hd K hK
        obtain ⟨o1, o5, o6⟩ := hG
        obtain ⟨_, hf, rfl⟩ := got (hd 11 (by kernel_rfl)) hf
        obtain ⟨_, hf, rfl⟩ := got (hd 13 (by kernel_rfl)) hf
        obtain ⟨_, hf, rfl⟩ := got (hd 15 (by kernel_rfl)) hf
        obtain ⟨_, hf, rfl⟩ := got (hd 17 (by kernel_rfl)) hf
        refine dc_ hK hw (wn rfl) (r_fn en91 hf rfl) (spec_l01Rank_ok  hx16) fun v w' hΦ => ?_
        obtain ⟨hb, hΦ⟩ := hΦ
        obtain rfl := hΦ
        have hE := Ext.new (ρ := ρ) 8 hb
        exact ⟨_, hw.new 8 hb, hE, rfl⟩
      · intro ρ w a hw hG hf hd K hK
        obtain ⟨o1, o5, o6⟩ := hG
        exact dv_ hK hw (wn rfl) (r_fa fa28_0 hf rfl) rfl
      · intro ρ w a hw hG hf hd K hK
        obtain ⟨o1, o5, o6⟩ := hG
        obtain ⟨_, hf, rfl⟩ := got (hd 19 (by kernel_rfl)) hf
        exact dv_ hK hw (wn rfl) (r_load_cell ty2 hf rfl (o1.cl.at_ 0 _ rfl)) rfl
      · intro ρ w a hw hG hf hd K hK
        obtain ⟨o1, o5, o6⟩ := hG
        exact dv_ hK hw (wn rfl) (r_fa fa78_2 hf rfl) rfl
      · intro ρ w a hw hG hf hd K hK
        obtain ⟨o1, o5, o6⟩ := hG
        obtain ⟨_, hf, rfl⟩ := got (hd 21 (by kernel_rfl)) hf
        exact dv_ hK hw (wn rfl) (r_load_agg ty39 hf rfl (o6.cl.lens lProd_2) (cForm.len _)) rfl
      · intro ρ w a hw hG hf hd K hK
        obtain ⟨o1, o5, o6⟩ := hG
        exact dv_ hK hw (wn rfl) (r_fa fa28_1 hf rfl) rfl
      · intro ρ w a hw hG hf hd K hK
        obtain ⟨o1, o5, o6⟩ := hG
        obtain ⟨_, hf, rfl⟩ := got (hd 23 (by kernel_rfl)) hf
        exact dv_ hK hw (wn rfl) (r_load_cell ty2 hf rfl (o1.cl.at_ 1 _ rfl)) rfl
      · intro ρ w a hw hG hf hd K hK
        obtain ⟨o1, o5, o6⟩ := hG
        exact dv_ hK hw (wn rfl) (r_fa fa28_3 hf rfl) rfl
      · intro ρ w a hw hG hf hd K hK
        obtain ⟨o1, o5, o6⟩ := hG
        obtain ⟨_, hf, rfl⟩ := got (hd 25 (by kernel_rfl)) hf
        exact dv_ hK hw (wn rfl) (r_load_cell ty2 hf rfl (o1.cl.at_ 3 _ rfl)) rfl
      · intro ρ w a hw hG hf hd K hK
        obtain ⟨o1, o5, o6⟩ := hG
        obtain ⟨_, hf, rfl⟩ := got (hd 20 (by kernel_rfl)) hf
        obtain ⟨_, hf, rfl⟩ := got (hd 22 (by kernel_rfl)) hf
        obtain ⟨_, hf, rfl⟩ := got (hd 24 (by kernel_rfl)) hf
        obtain ⟨_, hf, rfl⟩ := got (hd 26 (by kernel_rfl)) hf
        refine dc_ hK hw (wn rfl) (r_fn en91 hf rfl) (spec_l01Rank_ok  hx18) fun v w' hΦ => ?_
        obtain ⟨hb, hΦ⟩ := hΦ
        obtain rfl := hΦ
        have hE := Ext.new (ρ := ρ) 9 hb
        exact ⟨_, hw.new 9 hb, hE, rfl⟩
      · intro ρ w a hw hG hf hd K hK
        obtain ⟨o1, o5, o6⟩ := hG
        obtain ⟨_, hf, rfl⟩ := got (hd 9 (by kernel_rfl)) hf
        obtain ⟨_, hf, rfl⟩ := got (hd 18 (by kernel_rfl)) hf
        obtain ⟨_, hf, rfl⟩ := got (hd 27 (by kernel_rfl)) hf
        refine dx_ hK hw (wn rfl) (r_lit (d := fI64) (xs := ([x13, x15, x17] : List Int)) (vs := [vI x13, vI x15, vI x17]) 10 Try.underlying61 el2 (Nat.le_of_ble_eq_true rfl) (Nat.le_of_ble_eq_true rfl) hw hf rfl rfl rfl) fun v10 w' hΦ => ?_
        obtain ⟨ρ, hw, hE, o10⟩ := hΦ
        exact ⟨_, hw, hE, ex_ <| an_ rfl <| o10⟩
      · intro ρ w a hw hG hf hd K hK
        obtain ⟨o1, o5, o6⟩ := hG
        obtain ⟨_, hf, ⟨v10, rfl, o10⟩⟩ := got (hd 28 (by kernel_rfl)) hf
        refine dx_ hK hw (wn rfl) (r_glit 11 Try.underlying44 el61 hw hf rfl o10) fun v11 w' hΦ => ?_
        obtain ⟨ρ, hw, hE, o11⟩ := hΦ
        replace o10 := o10.ext hE
        exact ⟨_, hw, hE, ex_ <| ex_ <| an_ rfl <| an_ o10 <| o11⟩
    intro ρ w a hw hG hf hd
    obtain ⟨o1, o5, o6⟩ := hG
    obtain ⟨_, hf, rfl⟩ := got (hd 0 (by decide)) hf
    obtain ⟨_, hf, ⟨v10, v11, rfl, o10, o11⟩⟩ := got (hd 29 (by decide)) hf
    obtain ⟨hc19, hF⟩ := of_guard hF
    refine sx_ hf (r_gapp' Try.underlying44 el61 hw (by decide) (by decide) (fun _ => by unfold lab; omega) o5 o11 o10 hc19 hf rfl rfl) fun a va20 w hf hΦ => ?_
    obtain ⟨f20, ρ, hw, hT, o5, hff20, hnu20⟩ := hΦ
    replace o1 := o1.tr (hT 1 (by decide) (by decide))
    replace o6 := o6.tr (hT 6 (by decide) (by decide))
    have hn21 : s7.length < (s7 ++ [[x13, x15, x17]]).length := by simp
    refine s_ hf (r_assign hf rfl) fun a hf => ?_
    refine c_nil <| n_block <| n_then <| c_region ?_
    refine s_ hf (r_move hf rfl) fun a hf => ?_
    refine s_ hf (r_add hf rfl rfl) fun a hf => ?_
    refine s_ hf (r_assign hf rfl) fun a hf => ?_
    refine c_nil ?_
    obtain rfl := Option.some.inj hF
    exact Rnd.goes ⟨_, _, _, hw, hf.sub ⟨rfl, rfl, rfl, trivial⟩, o1, o5⟩
  rintro ⟨s5, s6, s7⟩ a w hs ⟨ρ, v8, f9, hw, hf, o5⟩
  subst hs
  have hF := hG4
  dsimp only at hF
  refine x_block <| n_then <| c_seq <| c_region ?_
  refine s_ hf (r_move hf rfl) fun a hf => ?_
  refine s_ hf (r_assign hf rfl) fun a hf => ?_
  refine s_ hf (r_assign hf rfl) fun a hf => ?_
  refine c_nt <| c_retc ?_
  obtain rfl := Option.some.inj hF
  refine c_ret hf (res_tt Try.results29 hf rfl rfl) ?_
  exact ⟨_, rfl, hw.below, ⟨_, rfl, o5.fresh⟩⟩
/-! f92 -/
noncomputable def impl_ranks_l1 (a0 : Sch) (s2 : Int) (s3 : List Nat) (s4 : List (List Int)) : Option (LR (Int × (List Nat) × (List (List Int))) (List (List Int))) :=
  if (decide (s2 < (a0.ps.length : Int))) = true then (if 0 ≤ s2 ∧ s2 < (a0.ps.length : Int) then ((impl_matrixOf ((gl zProd a0.ps s2).1) a0.n a0.m).bind fun x10 => (impl_rank a0.p x10).bind fun x14 => (impl_matrixOf ((gl zProd a0.ps s2).2.1) a0.m a0.k).bind fun x16 => (impl_rank a0.p x16).bind fun x20 => (impl_matrixOf ((gl zProd a0.ps s2).2.2) a0.n a0.k).bind fun x22 => (impl_rank a0.p x22).bind fun x26 => if (s3.length + 1) * 24 ≤ 140737488355328 then (some (.next (w64 (s2 + 1), (s3 ++ [s4.length]), (s4 ++ [[x14, x20, x26]])))) else none) else none) else (some (.stop (s2, s3, s4)))
noncomputable def impl_ranks (a0 : Sch) : Option (List (List Int)) :=
  (iter (fun s => impl_ranks_l1 a0 s.1 s.2.1 s.2.2) (0, ([] : List Nat), ([] : List (List Int)))).bind fun o => match o with | .stop (s2, s3, s4) => (if s3.Nodup then some ((gi s3 s4)) else none) | .ret r => some r | .next _ => none
theorem impl_ranks_ok {w0 : World} {a0 : Sch} {va0 : Value} (h0 : Ro (kf cProd) w0 va0 a0.ps) {r : List (List Int)} (hF : impl_ranks a0 = some r) :
    Calls Try.prog 92 [.agg ([vI a0.p, vI a0.n, vI a0.m, vI a0.k, va0]).toArray].toArray w0 fun e w => ∃ v, e = .returned v ∧ Below w0.heap.size w0 w ∧ ∃ u0, u0 = v ∧ GFresh fI64 2 61 w0 w u0 r := by
  refine calls_of (k := 50) Try.func92 rfl rfl (Nat.le_of_ble_eq_true rfl) fun a hf => ?_
  replace hf : Fr 50 a [(0, .agg ([vI a0.p, vI a0.n, vI a0.m, vI a0.k, va0]).toArray)] := hf
  refine c_start fun w ρ hw => ?_
  unfold impl_ranks at hF
  refine c_seq <| c_region ?_
  refine sx_ hf (r_box (cs := [vI a0.p, vI a0.n, vI a0.m, vI a0.k, va0]) 1 hw hf rfl rfl) fun a v w hf hΦ => ?_
  obtain ⟨g1, ρ, rfl, hw, hE, o1⟩ := hΦ
  have o2 : Ow (Kd.slice 2 (kf fI64)) 61 ρ w w0.heap.size 2 (.slice none 0 0) [] := Ow.nil _ _ _ _ _ _
  refine s_ hf (r_assign hf rfl) fun a hf => ?_
  refine c_nt <| c_seq <| c_region ?_
  refine sx_ hf (r_lit_none (d := (Kd.slice 2 (kf fI64))) 3 Try.underlying44 el61 hw) fun a v3 w hf hΦ => ?_
  obtain ⟨ρ, hw, hE, o3⟩ := hΦ
  replace o1 := o1.ext hE
  replace o2 := o2.ext hE
  replace o3 : Gd fI64 2 61 ρ w w0.heap.size 3 v3 (fun _ => (⟨.bool false, rfl⟩ : V1)) ([] : List Nat) ([] : List (List Int)) := Gd.empty o3 rfl (by decide) _
  refine s_ hf (r_assign hf rfl) fun a hf => ?_
  refine c_nt <| c_seq <| c_seq <| c_region ?_
  refine s_ hf (r_fa fa28_4 hf rfl) fun a hf => ?_
  refine s_ hf (r_load_cell ty26 hf rfl (o1.cl.at_ 4 _ rfl)) fun a hf => ?_
  refine s_ hf (r_len Try.underlying26 (h0.now hw) hf rfl) fun a hf => ?_
  refine s_ hf (r_move hf rfl) fun a hf => ?_
  refine c_nt ?_
  obtain ⟨ol1, ho1, hG1⟩ := of_bind hF
  clear hF
  refine c_block (c_loop (id := 0) (fun s => impl_ranks_l1 a0 s.1 s.2.1 s.2.2) (fun (s : Int × (List Nat) × (List (List Int))) a w => match s with | (s2, s3, s4) => ∃ ρ v5 f6, Wd w0 ρ w ∧ Fr 50 a [(1, .pointer (some ((⟨g1, 0, none⟩ : Addr).add 0))), (3, v5), (8, va0), (9, vI (a0.ps.length : Int)), (10, vI s2)] ∧ Va ρ w 1 g1 28 ([vI a0.p, vI a0.n, vI a0.m, vI a0.k, va0]) ∧ Gd fI64 2 61 ρ w w0.heap.size 3 v5 f6 s3 s4) (fun (s : Int × (List Nat) × (List (List Int))) a w => match s with | (s2, s3, s4) => ∃ ρ v5 f6, Wd w0 ρ w ∧ Fr 50 a [(3, v5)] ∧ Gd fI64 2 61 ρ w w0.heap.size 3 v5 f6 s3 s4) ho1 ⟨_, _, _, hw, hf.sub ⟨rfl, rfl, rfl, rfl, rfl, trivial⟩, o1, o3⟩ ?_ ?_)
  · rintro ⟨s2, s3, s4⟩ lr a w ⟨ρ, v5, f6, hw, hf, o1, o3⟩ hF
    replace hF : impl_ranks_l1 a0 s2 s3 s4 = some lr := hF
    unfold impl_ranks_l1 at hF
    refine c_seq <| c_region ?_
    refine s_ hf (r_lss hf rfl rfl) fun a hf => ?_
    refine c_nt <| c_seq ?_
    rcases of_ite hF with ⟨hb7, hF⟩ | ⟨hb7, hF⟩
    rotate_left
    · refine c_iff hf rfl hb7 <| c_exit <| x_then ?_
      obtain rfl := Option.some.inj hF
      exact Rnd.stops ⟨_, _, _, hw, hf.sub ⟨rfl, trivial⟩, o3⟩
    refine c_ift hf rfl hb7 <| c_skip <| n_then <| c_seq <| c_block <| c_seq <| c_region ?_
    obtain ⟨hc8, hF⟩ := of_guard hF
    obtain ⟨ad9, c9, he9, hl9⟩ := Ro.el cProd h0 zProd hc8.1 hc8.2
    refine s_ hf (r_idx Try.underlying26 sz78 hf rfl ⟨_, he9⟩ rfl hc8.1 hc8.2) fun a hf => ?_
    refine s_ hf (r_load_agg ty78 hf rfl (hl9.below hw.below) (cProd.len _)) fun a hf => ?_
    refine sx_ hf (r_alloc (cs := cProd.enc zProd) 4 ze78 rfl hw) fun a v w hf hΦ => ?_
    obtain ⟨g4, ρ, rfl, hw, hE, o4⟩ := hΦ
    replace o1 := o1.ext hE
    replace o3 := o3.ext hE
    refine sk_ hf (r_store_w (cs' := cProd.enc (gl zProd a0.ps s2)) hw o4 (by decide) ty78 (cProd.len _) (cProd.len _) (cProd.one _) hf rfl rfl rfl) fun a w hf hΦ => ?_
    obtain ⟨hw, hA, o4⟩ := hΦ
    replace o1 := o1.adv hA (by decide)
    replace o3 := o3.adv hA (by decide) (fun _ => by unfold lab; omega)
    refine c_nt ?_
    obtain ⟨x10, hx11, hF⟩ := of_bind hF
    obtain ⟨x14, hx15, hF⟩ := of_bind hF
    obtain ⟨x16, hx17, hF⟩ := of_bind hF
    obtain ⟨x20, hx21, hF⟩ := of_bind hF
    obtain ⟨x22, hx23, hF⟩ := of_bind hF
    obtain ⟨x26, hx27, hF⟩ := of_bind hF
    replace hf : Fr 50 a [(1, .pointer (some ((⟨g1, 0, none⟩ : Addr).add 0))), (3, v5), (5, .pointer (some ((⟨g4, 0, none⟩ : Addr).add 0))), (8, va0), (9, vI (a0.ps.length : Int)), (10, vI s2)] := hf.sub ⟨rfl, rfl, rfl, rfl, rfl, rfl, trivial⟩
    refine c_drawL (h := 33) mixed (by kernel_rfl) (by kernel_rfl) (fun ρ w => Va ρ w 1 g1 28 ([vI a0.p, vI a0.n, vI a0.m, vI a0.k, va0]) ∧ Gd fI64 2 61 ρ w w0.heap.size 3 v5 f6 s3 s4 ∧ Va ρ w 4 g4 78 (cProd.enc (gl zProd a0.ps s2))) ?_ [fun ρ w v => v5 = v, fun ρ w v => .pointer (some ((⟨g1, 0, none⟩ : Addr).add (0 + 0))) = v, fun ρ w v => vI a0.p = v, fun ρ w v => .pointer (some ((⟨g4, 0, none⟩ : Addr).add (0 + 0))) = v, fun ρ w v => .agg (cForm.enc ((gl zProd a0.ps s2).1)).toArray = v, fun ρ w v => .pointer (some ((⟨g1, 0, none⟩ : Addr).add (0 + 1))) = v, fun ρ w v => vI a0.n = v, fun ρ w v => .pointer (some ((⟨g1, 0, none⟩ : Addr).add (0 + 2))) = v, fun ρ w v => vI a0.m = v, fun ρ w v => ∃ u12, u12 = v ∧ O61 ρ w w0 5 u12 x10, fun ρ w v => vI x14 = v, fun ρ w v => .pointer (some ((⟨g1, 0, none⟩ : Addr).add (0 + 0))) = v, fun ρ w v => vI a0.p = v, fun ρ w v => .pointer (some ((⟨g4, 0, none⟩ : Addr).add (0 + 9))) = v, fun ρ w v => .agg (cForm.enc ((gl zProd a0.ps s2).2.1)).toArray = v, fun ρ w v => .pointer (some ((⟨g1, 0, none⟩ : Addr).add (0 + 2))) = v, fun ρ w v => vI a0.m = v, fun ρ w v => .pointer (some ((⟨g1, 0, none⟩ : Addr).add (0 + 3))) = v, fun ρ w v => vI a0.k = v, fun ρ w v => ∃ u18, u18 = v ∧ O61 ρ w w0 7 u18 x16, fun ρ w v => vI x20 = v, fun ρ w v => .pointer (some ((⟨g1, 0, none⟩ : Addr).add (0 + 0))) = v, fun ρ w v => vI a0.p = v, fun ρ w v => .pointer (some ((⟨g4, 0, none⟩ : Addr).add (0 + 18))) = v, fun ρ w v => .agg (cForm.enc ((gl zProd a0.ps s2).2.2)).toArray = v, fun ρ w v => .pointer (some ((⟨g1, 0, none⟩ : Addr).add (0 + 1))) = v, fun ρ w v => vI a0.n = v, fun ρ w v => .pointer (some ((⟨g1, 0, none⟩ : Addr).add (0 + 3))) = v, fun ρ w v => vI a0.k = v, fun ρ w v => ∃ u24, u24 = v ∧ O61 ρ w w0 9 u24 x22, fun ρ w v => vI x26 = v, fun ρ w v => ∃ v11, v11 = v ∧ O2 ρ w w0 11 v11 ([x14, x20, x26]), fun ρ w v => ∃ v11 v12, v12 = v ∧ O2 ρ w w0 11 v11 ([x14, x20, x26]) ∧ Gl 61 ρ w w0.heap.size 12 v12 v11] ?_ hw ⟨o1, o3, o4⟩ hf ?_ ?_
    · intro ρ w ρ' w' hE hG
      obtain ⟨o1, o3, o4⟩ := hG
      exact ⟨o1.ext hE, o3.ext hE, o4.ext hE⟩
    · exact LastsL.cons (fun _ _ _ _ _ _ h => h) <| LastsL.cons (fun _ _ _ _ _ _ h => h) <| LastsL.cons (fun _ _ _ _ _ _ h => h) <| LastsL.cons (fun _ _ _ _ _ _ h => h) <| LastsL.cons (fun _ _ _ _ _ _ h => h) <| LastsL.cons (fun _ _ _ _ _ _ h => h) <| LastsL.cons (fun _ _ _ _ _ _ h => h) <| LastsL.cons (fun _ _ _ _ _ _ h => h) <| LastsL.cons (fun _ _ _ _ _ _ h => h) <| LastsL.cons (fun _ _ _ _ _ hE h => by obtain ⟨u12, h, o5⟩ := h; exact ⟨_, h, o5.ext hE⟩) <| LastsL.cons (fun _ _ _ _ _ _ h => h) <| LastsL.cons (fun _ _ _ _ _ _ h => h) <| LastsL.cons (fun _ _ _ _ _ _ h => h) <| LastsL.cons (fun _ _ _ _ _ _ h => h) <| LastsL.cons (fun _ _ _ _ _ _ h => h) <| LastsL.cons (fun _ _ _ _ _ _ h => h) <| LastsL.cons (fun _ _ _ _ _ _ h => h) <| LastsL.cons (fun _ _ _ _ _ _ h => h) <| LastsL.cons (fun _ _ _ _ _ _ h => h) <| LastsL.cons (fun _ _ _ _ _ hE h => by obtain ⟨u18, h, o7⟩ := h; exact ⟨_, h, o7.ext hE⟩) <| LastsL.cons (fun _ _ _ _ _ _ h => h) <| LastsL.cons (fun _ _ _ _ _ _ h => h) <| LastsL.cons (fun _ _ _ _ _ _ h => h) <| LastsL.cons (fun _ _ _ _ _ _ h => h) <| LastsL.cons (fun _ _ _ _ _ _ h => h) <| LastsL.cons (fun _ _ _ _ _ _ h => h) <| LastsL.cons (fun _ _ _ _ _ _ h => h) <| LastsL.cons (fun _ _ _ _ _ _ h => h) <| LastsL.cons (fun _ _ _ _ _ _ h => h) <| LastsL.cons (fun _ _ _ _ _ hE h => by obtain ⟨u24, h, o9⟩ := h; exact ⟨_, h, o9.ext hE⟩) <| LastsL.cons (fun _ _ _ _ _ _ h => h) <| LastsL.cons (fun _ _ _ _ _ hE h => by obtain ⟨v11, h, o11⟩ := h; exact ⟨_, h, o11.ext hE⟩) <| LastsL.cons (fun _ _ _ _ _ hE h => by obtain ⟨v11, v12, h, o11, o12⟩ := h; exact ⟨_, _, h, o11.ext hE, o12.ext hE⟩) <| LastsL.nil
    · refine StepsB.cons ?_ <| StepsB.cons ?_ <| StepsB.cons ?_ <| StepsB.cons ?_ <| StepsB.cons ?_ <| StepsB.cons ?_ <| StepsB.cons ?_ <| StepsB.cons ?_ <| StepsB.cons ?_ <| StepsB.cons ?_ <| StepsB.cons ?_ <| StepsB.cons ?_ <| StepsB.cons ?_ <| StepsB.cons ?_ <| StepsB.cons ?_ <| StepsB.cons ?_ <| StepsB.cons ?_ <| StepsB.cons ?_ <| StepsB.cons ?_ <| StepsB.cons ?_ <| StepsB.cons ?_ <| StepsB.cons ?_ <| StepsB.cons ?_ <| StepsB.cons ?_ <| StepsB.cons ?_ <| StepsB.cons ?_ <| StepsB.cons ?_ <| StepsB.cons ?_ <| StepsB.cons ?_ <| StepsB.cons ?_ <| StepsB.cons ?_ <| StepsB.cons ?_ <| StepsB.cons ?_ <| StepsB.nil
      · intro ρ w a hw hG hf hd K hK
        obtain ⟨o1, o3, o4⟩ := hG
        exact dv_ hK hw (wn rfl) (r_move hf rfl) rfl
      · intro ρ w a hw hG hf hd K hK
        obtain ⟨o1, o3, o4⟩ := hG
        exact dv_ hK hw (wn rfl) (r_fa fa28_0 hf rfl) rfl
      · intro ρ w a hw hG hf hd K hK
        obtain ⟨o1, o3, o4⟩ := hG
        obtain ⟨_, hf, rfl⟩ := got (hd 1 (by kernel_rfl)) hf
        exact dv_ hK hw (wn rfl) (r_load_cell ty2 hf rfl (o1.cl.at_ 0 _ rfl)) rfl
      · intro ρ w a hw hG hf hd K hK
        obtain ⟨o1, o3, o4⟩ := hG
        exact dv_ hK hw (wn rfl) (r_fa fa78_0 hf rfl) rfl
      · intro ρ w a hw hG hf hd K hK
        obtain ⟨o1, o3, o4⟩ := hG
        obtain ⟨_, hf, rfl⟩ := got (hd 3 (by kernel_rfl)) hf
        exact dv_ hK hw (wn rfl) (r_load_agg ty39 hf rfl (o4.cl.lens lProd_0) (cForm.len _)) rfl
      · intro ρ w a hw hG hf hd K hK
        obtain ⟨o1, o3, o4⟩ := hG
        exact dv_ hK hw (wn rfl) (r_fa fa28_1 hf rfl) rfl
      · intro ρ w a hw hG hf hd K hK
        obtain ⟨o1, o3, o4⟩ := hG
        obtain ⟨_, hf, rfl⟩ := got (hd 5 (by kernel_rfl)) hf
        exact dv_ hK hw (wn rfl) (r_load_cell ty2 hf rfl (o1.cl.at_ 1 _ rfl)) rfl
      · intro ρ w a hw hG hf hd K hK
        obtain ⟨o1, o3, o4⟩ := hG
        exact dv_ hK hw (wn rfl) (r_fa fa28_2 hf rfl) rfl
      · intro ρ w a hw hG hf hd K hK
        obtain ⟨o1, o3, o4⟩ := hG
        obtain ⟨_, hf, rfl⟩ := got (hd 7 (by kernel_rfl)) hf
        exact dv_ hK hw (wn rfl) (r_load_cell ty2 hf rfl (o1.cl.at_ 2 _ rfl)) rfl
      · intro ρ w a hw hG hf hd K hK
        obtain ⟨o1, o3, o4⟩ := hG
        obtain ⟨_, hf, rfl⟩ := got (hd 4 (by kernel_rfl)) hf
        obtain ⟨_, hf, rfl⟩ := got (hd 6 (by kernel_rfl)) hf
        obtain ⟨_, hf, rfl⟩ := got (hd 8 (by kernel_rfl)) hf
        refine dc_ hK hw (wn rfl) (r_fn en137 hf rfl) (impl_matrixOf_ok  hx11) fun v w' hΦ => ?_
        obtain ⟨hb, hΦ⟩ := hΦ
        obtain ⟨u12, rfl, hr13⟩ := hΦ
        have hE := Ext.new (ρ := ρ) 5 hb
        have o5 := Fresh.own (ρ := ρ) (B := w0.heap.size) hr13 hw.below.size 5
        exact ⟨_, hw.new 5 hb, hE, ex_ <| an_ rfl <| o5⟩
      · intro ρ w a hw hG hf hd K hK
        obtain ⟨o1, o3, o4⟩ := hG
        obtain ⟨_, hf, rfl⟩ := got (hd 2 (by kernel_rfl)) hf
        obtain ⟨_, hf, ⟨u12, rfl, o5⟩⟩ := got (hd 9 (by kernel_rfl)) hf
        refine dc_ hK hw (wn rfl) (r_fn en136 hf rfl) (impl_rank_ok o5.ro hx15) fun v w' hΦ => ?_
        obtain ⟨hb, hΦ⟩ := hΦ
        obtain rfl := hΦ
        have hE := Ext.new (ρ := ρ) 6 hb
        exact ⟨_, hw.new 6 hb, hE, rfl⟩
      · intro ρ w a hw hG hf hd K hK
        obtain ⟨o1, o3, o4⟩ := hG
        exact dv_ hK hw (wn rfl) (r_fa fa28_0 hf rfl) rfl
      · intro ρ w a hw hG hf hd K hK
        obtain ⟨o1, o3, o4⟩ := hG
        obtain ⟨_, hf, rfl⟩ := got (hd 11 (by kernel_rfl)) hf
        exact dv_ hK hw (wn rfl) (r_load_cell ty2 hf rfl (o1.cl.at_ 0 _ rfl)) rfl
      · intro ρ w a hw hG hf hd K hK
        obtain ⟨o1, o3, o4⟩ := hG
        exact dv_ hK hw (wn rfl) (r_fa fa78_1 hf rfl) rfl
      · intro ρ w a hw hG hf hd K hK
        obtain ⟨o1, o3, o4⟩ := hG
        obtain ⟨_, hf, rfl⟩ := got (hd 13 (by kernel_rfl)) hf
        exact dv_ hK hw (wn rfl) (r_load_agg ty39 hf rfl (o4.cl.lens lProd_1) (cForm.len _)) rfl
      · intro ρ w a hw hG hf hd K hK
        obtain ⟨o1, o3, o4⟩ := hG
        exact dv_ hK hw (wn rfl) (r_fa fa28_2 hf rfl) rfl
      · intro ρ w a hw hG hf hd K hK
        obtain ⟨o1, o3, o4⟩ := hG
        obtain ⟨_, hf, rfl⟩ := got (hd 15 (by kernel_rfl)) hf
        exact dv_ hK hw (wn rfl) (r_load_cell ty2 hf rfl (o1.cl.at_ 2 _ rfl)) rfl
      · intro ρ w a hw hG hf hd K hK
        obtain ⟨o1, o3, o4⟩ := hG
        exact dv_ hK hw (wn rfl) (r_fa fa28_3 hf rfl) rfl
      · intro ρ w a hw hG hf hd K hK
        obtain ⟨o1, o3, o4⟩ := hG
        obtain ⟨_, hf, rfl⟩ := got (hd 17 (by kernel_rfl)) hf
        exact dv_ hK hw (wn rfl) (r_load_cell ty2 hf rfl (o1.cl.at_ 3 _ rfl)) rfl
      · intro ρ w a hw hG hf hd K hK
        obtain ⟨o1, o3, o4⟩ := hG
        obtain ⟨_, hf, rfl⟩ := got (hd 14 (by kernel_rfl)) hf
        obtain ⟨_, hf, rfl⟩ := got (hd 16 (by kernel_rfl)) hf
        obtain ⟨_, hf, rfl⟩ := got (hd 18 (by kernel_rfl)) hf
        refine dc_ hK hw (wn rfl) (r_fn en137 hf rfl) (impl_matrixOf_ok  hx17) fun v w' hΦ => ?_
        obtain ⟨hb, hΦ⟩ := hΦ
        obtain ⟨u18, rfl, hr19⟩ := hΦ
        have hE := Ext.new (ρ := ρ) 7 hb
        have o7 := Fresh.own (ρ := ρ) (B := w0.heap.size) hr19 hw.below.size 7
        exact ⟨_, hw.new 7 hb, hE, ex_ <| an_ rfl <| o7⟩
      · intro ρ w a hw hG hf hd K hK
        obtain ⟨o1, o3, o4⟩ := hG
        obtain ⟨_, hf, rfl⟩ := got (hd 12 (by kernel_rfl)) hf
        obtain ⟨_, hf, ⟨u18, rfl, o7⟩⟩ := got (hd 19 (by kernel_rfl)) hf
        refine dc_ hK hw (wn rfl) (r_fn en136 hf rfl) (impl_rank_ok o7.ro hx21) fun v w' hΦ => ?_
        obtain ⟨hb, hΦ⟩ := hΦ
        obtain rfl := hΦ
        have hE := Ext.new (ρ := ρ) 8 hb
        exact ⟨_, hw.new 8 hb, hE, rfl⟩
      · intro ρ w a hw hG hf hd K hK
        obtain ⟨o1, o3, o4⟩ := hG
        exact dv_ hK hw (wn rfl) (r_fa fa28_0 hf rfl) rfl
      · intro ρ w a hw hG hf hd K hK
        obtain ⟨o1, o3, o4⟩ := hG
        obtain ⟨_, hf, rfl⟩ := got (hd 21 (by kernel_rfl)) hf
        exact dv_ hK hw (wn rfl) (r_load_cell ty2 hf rfl (o1.cl.at_ 0 _ rfl)) rfl
      · intro ρ w a hw hG hf hd K hK
        obtain ⟨o1, o3, o4⟩ := hG
        exact dv_ hK hw (wn rfl) (r_fa fa78_2 hf rfl) rfl
      · intro ρ w a hw hG hf hd K hK
        obtain ⟨o1, o3, o4⟩ := hG
        obtain ⟨_, hf, rfl⟩ := got (hd 23 (by kernel_rfl)) hf
        exact dv_ hK hw (wn rfl) (r_load_agg ty39 hf rfl (o4.cl.lens lProd_2) (cForm.len _)) rfl
      · intro ρ w a hw hG hf hd K hK
        obtain ⟨o1, o3, o4⟩ := hG
        exact dv_ hK hw (wn rfl) (r_fa fa28_1 hf rfl) rfl
      · intro ρ w a hw hG hf hd K hK
        obtain ⟨o1, o3, o4⟩ := hG
        obtain ⟨_, hf, rfl⟩ := got (hd 25 (by kernel_rfl)) hf
        exact dv_ hK hw (wn rfl) (r_load_cell ty2 hf rfl (o1.cl.at_ 1 _ rfl)) rfl
      · intro ρ w a hw hG hf hd K hK
        obtain ⟨o1, o3, o4⟩ := hG
        exact dv_ hK hw (wn rfl) (r_fa fa28_3 hf rfl) rfl
      · intro ρ w a hw hG hf hd K hK
        obtain ⟨o1, o3, o4⟩ := hG
        obtain ⟨_, hf, rfl⟩ := got (hd 27 (by kernel_rfl)) hf
        exact dv_ hK hw (wn rfl) (r_load_cell ty2 hf rfl (o1.cl.at_ 3 _ rfl)) rfl
      · intro ρ w a hw hG hf hd K hK
        obtain ⟨o1, o3, o4⟩ := hG
        obtain ⟨_, hf, rfl⟩ := got (hd 24 (by kernel_rfl)) hf
        obtain ⟨_, hf, rfl⟩ := got (hd 26 (by kernel_rfl)) hf
        obtain ⟨_, hf, rfl⟩ := got (hd 28 (by kernel_rfl)) hf
        refine dc_ hK hw (wn rfl) (r_fn en137 hf rfl) (impl_matrixOf_ok  hx23) fun v w' hΦ => ?_
        obtain ⟨hb, hΦ⟩ := hΦ
        obtain ⟨u24, rfl, hr25⟩ := hΦ
        have hE := Ext.new (ρ := ρ) 9 hb
        have o9 := Fresh.own (ρ := ρ) (B := w0.heap.size) hr25 hw.below.size 9
        exact ⟨_, hw.new 9 hb, hE, ex_ <| an_ rfl <| o9⟩
      · intro ρ w a hw hG hf hd K hK
        obtain ⟨o1, o3, o4⟩ := hG
        obtain ⟨_, hf, rfl⟩ := got (hd 22 (by kernel_rfl)) hf
        obtain ⟨_, hf, ⟨u24, rfl, o9⟩⟩ := got (hd 29 (by kernel_rfl)) hf
        refine dc_ hK hw (wn rfl) (r_fn en136 hf rfl) (impl_rank_ok o9.ro hx27) fun v w' hΦ => ?_
        obtain ⟨hb, hΦ⟩ := hΦ
        obtain rfl := hΦ
        have hE := Ext.new (ρ := ρ) 10 hb
        exact ⟨_, hw.new 10 hb, hE, rfl⟩
      · intro ρ w a hw hG hf hd K hK
        obtain ⟨o1, o3, o4⟩ := hG
        obtain ⟨_, hf, rfl⟩ := got (hd 10 (by kernel_rfl)) hf
        obtain ⟨_, hf, rfl⟩ := got (hd 20 (by kernel_rfl)) hf
        obtain ⟨_, hf, rfl⟩ := got (hd 30 (by kernel_rfl)) hf
        refine dx_ hK hw (wn rfl) (r_lit (d := fI64) (xs := ([x14, x20, x26] : List Int)) (vs := [vI x14, vI x20, vI x26]) 11 Try.underlying61 el2 (Nat.le_of_ble_eq_true rfl) (Nat.le_of_ble_eq_true rfl) hw hf rfl rfl rfl) fun v11 w' hΦ => ?_
        obtain ⟨ρ, hw, hE, o11⟩ := hΦ
        exact ⟨_, hw, hE, ex_ <| an_ rfl <| o11⟩
      · intro ρ w a hw hG hf hd K hK
        obtain ⟨o1, o3, o4⟩ := hG
        obtain ⟨_, hf, ⟨v11, rfl, o11⟩⟩ := got (hd 31 (by kernel_rfl)) hf
        refine dx_ hK hw (wn rfl) (r_glit 12 Try.underlying44 el61 hw hf rfl o11) fun v12 w' hΦ => ?_
        obtain ⟨ρ, hw, hE, o12⟩ := hΦ
        replace o11 := o11.ext hE
        exact ⟨_, hw, hE, ex_ <| ex_ <| an_ rfl <| an_ o11 <| o12⟩
    intro ρ w a hw hG hf hd
    obtain ⟨o1, o3, o4⟩ := hG
    obtain ⟨_, hf, rfl⟩ := got (hd 0 (by decide)) hf
    obtain ⟨_, hf, ⟨v11, v12, rfl, o11, o12⟩⟩ := got (hd 32 (by decide)) hf
    obtain ⟨hc28, hF⟩ := of_guard hF
    refine sx_ hf (r_gapp' Try.underlying44 el61 hw (by decide) (by decide) (fun _ => by unfold lab; omega) o3 o12 o11 hc28 hf rfl rfl) fun a va29 w hf hΦ => ?_
    obtain ⟨f29, ρ, hw, hT, o3, hff29, hnu29⟩ := hΦ
    replace o1 := o1.tr (hT 1 (by decide) (by decide))
    replace o4 := o4.tr (hT 4 (by decide) (by decide))
    have hn30 : s4.length < (s4 ++ [[x14, x20, x26]]).length := by simp
    refine s_ hf (r_assign hf rfl) fun a hf => ?_
    refine c_nil <| n_block <| n_then <| c_region ?_
    refine s_ hf (r_add hf rfl rfl) fun a hf => ?_
    refine s_ hf (r_move hf rfl) fun a hf => ?_
    refine c_nil ?_
    obtain rfl := Option.some.inj hF
    exact Rnd.goes ⟨_, _, _, hw, hf.sub ⟨rfl, rfl, rfl, rfl, rfl, trivial⟩, o1, o3⟩
  rintro ⟨s2, s3, s4⟩ a w hs ⟨ρ, v5, f6, hw, hf, o3⟩
  subst hs
  have hF := hG1
  dsimp only at hF
  refine x_block <| n_then <| c_seq <| c_region ?_
  refine s_ hf (r_move hf rfl) fun a hf => ?_
  refine s_ hf (r_assign hf rfl) fun a hf => ?_
  refine c_nt <| c_retc ?_
  obtain ⟨hnd, hF⟩ := of_guard hF
  obtain rfl := Option.some.inj hF
  refine c_ret hf (res_tmp Try.results92 hf rfl) ?_
  exact ⟨_, rfl, hw.below, ⟨_, rfl, o3.gout hnd⟩⟩
/-! f30 -/
noncomputable def impl_RanksOf (a0 : Sch) : Option (List (List Int) × Int) :=
  (impl_IsScheme a0).bind fun x1 => if (!x1) = true then (some ((([] : List (List Int)), 1))) else ((impl_ranks a0).bind fun x4 => if (List.range x4.length).Nodup then some (((gi (List.range x4.length) x4), 0)) else none)
theorem impl_RanksOf_ok {w0 : World} {a0 : Sch} {va0 : Value} (h0 : Ro (kf cProd) w0 va0 a0.ps) {r : List (List Int) × Int} (hF : impl_RanksOf a0 = some r) :
    Calls Try.prog 30 [.agg ([vI a0.p, vI a0.n, vI a0.m, vI a0.k, va0]).toArray].toArray w0 fun e w => ∃ v, e = .returned v ∧ Below w0.heap.size w0 w ∧ ∃ u0, .tuple #[u0, .int .i64 r.2] = v ∧ GFresh fI64 2 61 w0 w u0 r.1 := by
  refine calls_of (k := 9) Try.func30 rfl rfl (Nat.le_of_ble_eq_true rfl) fun a hf => ?_
  replace hf : Fr 9 a [(0, .agg ([vI a0.p, vI a0.n, vI a0.m, vI a0.k, va0]).toArray)] := hf
  refine c_start fun w ρ hw => ?_
  unfold impl_RanksOf at hF
  refine c_seq <| c_region ?_
  refine sx_ hf (r_box (cs := [vI a0.p, vI a0.n, vI a0.m, vI a0.k, va0]) 1 hw hf rfl rfl) fun a v w hf hΦ => ?_
  obtain ⟨g1, ρ, rfl, hw, hE, o1⟩ := hΦ
  have o2 : Ow (Kd.slice 2 (kf fI64)) 61 ρ w w0.heap.size 2 (.slice none 0 0) [] := Ow.nil _ _ _ _ _ _
  refine s_ hf (r_assign hf rfl) fun a hf => ?_
  refine s_ hf (r_assign hf rfl) fun a hf => ?_
  refine c_nt <| c_seq <| c_seq <| c_region ?_
  refine s_ hf (r_load_agg ty28 hf rfl o1.cl rfl) fun a hf => ?_
  obtain ⟨x1, hx2, hF⟩ := of_bind hF
  refine st_fn 3 hw hf rfl rfl (by decide) (r_fn en74 hf rfl) (impl_IsScheme_ok (a0 := a0) (h0.now hw) hx2) fun a v w ρ hf hw hE hN hΦ => ?_
  obtain rfl := hΦ
  replace o1 := o1.ext hE
  replace o2 := o2.ext hE
  refine s_ hf (r_not hf rfl) fun a hf => ?_
  refine c_nt ?_
  rcases of_ite hF with ⟨hb3, hF⟩ | ⟨hb3, hF⟩
  · refine c_ift hf rfl hb3 <| c_seq <| c_region ?_
    have o4 : Ow (Kd.slice 2 (kf fI64)) 61 ρ w w0.heap.size 4 (.slice none 0 0) [] := Ow.nil _ _ _ _ _ _
    refine s_ hf (r_assign hf rfl) fun a hf => ?_
    refine s_ hf (r_assign hf rfl) fun a hf => ?_
    refine c_nt <| c_retc ?_
    obtain rfl := Option.some.inj hF
    refine r_then <| c_ret hf (res_tt Try.results30 hf rfl rfl) ?_
    exact ⟨_, rfl, hw.below, ⟨_, rfl, (Gd.empty (d := fI64) (e' := 2) o4 rfl (by decide) (fun _ => (⟨.bool false, rfl⟩ : V1))).gout List.nodup_nil⟩⟩
  refine c_iff hf rfl hb3 <| c_skip <| n_then <| c_seq <| c_region ?_
  refine s_ hf (r_load_agg ty28 hf rfl o1.cl rfl) fun a hf => ?_
  obtain ⟨x4, hx5, hF⟩ := of_bind hF
  refine st_fnr hf (r_fn en92 hf rfl) (impl_ranks_ok (a0 := a0) (h0.now hw) hx5) fun a v w hf hb hΦ => ?_
  obtain ⟨u6, rfl, hg⟩ := hΦ
  obtain ⟨f5, ρ, hw, hE, o5⟩ := hg.own hw hb 5 (by decide)
  replace o1 := o1.ext hE
  replace o2 := o2.ext hE
  refine s_ hf (r_assign hf rfl) fun a hf => ?_
  refine s_ hf (r_assign hf rfl) fun a hf => ?_
  refine c_nt <| c_retc ?_
  obtain ⟨hnd, hF⟩ := of_guard hF
  obtain rfl := Option.some.inj hF
  refine c_ret hf (res_tt Try.results30 hf rfl rfl) ?_
  exact ⟨_, rfl, hw.below, ⟨_, rfl, o5.gout hnd⟩⟩
/-! f31 -/
noncomputable def laws_eqInt64SS_l2 (a0 : List (List Int)) (a1 : List (List Int)) (s3 : Int) : Option (LR Int Bool) :=
  if (decide (s3 < (a0.length : Int))) = true then (if 0 ≤ s3 ∧ s3 < (a0.length : Int) then (if 0 ≤ s3 ∧ s3 < (a1.length : Int) then ((laws_eqInt64S (gl [] a0 s3) (gl [] a1 s3)).bind fun x9 => if (!x9) = true then (some (.ret false)) else (some (.next (w64 (s3 + 1))))) else none) else none) else (some (.stop s3))
noncomputable def laws_eqInt64SS (a0 : List (List Int)) (a1 : List (List Int)) : Option Bool :=
  if (decide ((a0.length : Int) ≠ (a1.length : Int))) = true then (some (false)) else ((iter (fun s => laws_eqInt64SS_l2 a0 a1 s) 0).bind fun o => match o with | .stop s3 => (some (true)) | .ret r => some r | .next _ => none)
theorem laws_eqInt64SS_ok {w0 : World} {a0 : List (List Int)} {a1 : List (List Int)} {va0 : Value} {va1 : Value} (h0 : Ro (Kd.slice 2 (kf fI64)) w0 va0 a0) (h1 : Ro (Kd.slice 2 (kf fI64)) w0 va1 a1) {r : Bool} (hF : laws_eqInt64SS a0 a1 = some r) :
    Calls Try.prog 31 [va0, va1].toArray w0 fun e w => ∃ v, e = .returned v ∧ Below w0.heap.size w0 w ∧ .bool r = v := by
  refine calls_of (k := 27) Try.func31 rfl rfl (Nat.le_of_ble_eq_true rfl) fun a hf => ?_
  replace hf : Fr 27 a [(0, va0), (1, va1)] := hf
  refine c_start fun w ρ hw => ?_
  unfold laws_eqInt64SS at hF
  refine c_seq <| c_region ?_
  refine s_ hf (r_assign hf rfl) fun a hf => ?_
  refine c_nt <| c_seq <| c_seq <| c_region ?_
  refine s_ hf (r_move hf rfl) fun a hf => ?_
  refine s_ hf (r_len Try.underlying44 (h0.now hw) hf rfl) fun a hf => ?_
  refine s_ hf (r_move hf rfl) fun a hf => ?_
  refine s_ hf (r_len Try.underlying44 (h1.now hw) hf rfl) fun a hf => ?_
  refine s_ hf (r_neq hf rfl rfl) fun a hf => ?_
  refine c_nt ?_
  rcases of_ite hF with ⟨hb1, hF⟩ | ⟨hb1, hF⟩
  · refine c_ift hf rfl hb1 <| c_seq <| c_region ?_
    refine s_ hf (r_assign hf rfl) fun a hf => ?_
    refine c_nt <| c_retc ?_
    obtain rfl := Option.some.inj hF
    refine r_then <| c_ret hf (res_tmp Try.results31 hf rfl) ?_
    exact ⟨_, rfl, hw.below, rfl⟩
  refine c_iff hf rfl hb1 <| c_skip <| n_then <| c_seq <| c_seq <| c_region ?_
  refine s_ hf (r_assign hf rfl) fun a hf => ?_
  refine c_nt ?_
  obtain ⟨ol2, ho2, hG2⟩ := of_bind hF
  clear hF
  refine c_block (c_loop (id := 0) (fun s => laws_eqInt64SS_l2 a0 a1 s) (fun (s3 : Int) a w => ∃ ρ, Wd w0 ρ w ∧ Fr 27 a [(0, va0), (1, va1), (5, vI s3)]) (fun (s3 : Int) a w => ∃ ρ, Wd w0 ρ w ∧ Fr 27 a []) ho2 ⟨_, hw, hf.sub ⟨rfl, rfl, rfl, trivial⟩⟩ ?_ ?_)
  · rintro s3 lr a w ⟨ρ, hw, hf⟩ hF
    replace hF : laws_eqInt64SS_l2 a0 a1 s3 = some lr := hF
    unfold laws_eqInt64SS_l2 at hF
    refine c_seq <| c_seq <| c_region ?_
    refine s_ hf (r_move hf rfl) fun a hf => ?_
    refine s_ hf (r_move hf rfl) fun a hf => ?_
    refine s_ hf (r_len Try.underlying44 (h0.now hw) hf rfl) fun a hf => ?_
    refine s_ hf (r_lss hf rfl rfl) fun a hf => ?_
    refine c_nt ?_
    rcases of_ite hF with ⟨hb4, hF⟩ | ⟨hb4, hF⟩
    rotate_left
    · refine c_iff hf rfl hb4 <| c_exit <| x_then ?_
      obtain rfl := Option.some.inj hF
      exact Rnd.stops ⟨_, hw, hf.sub trivial⟩
    refine c_ift hf rfl hb4 <| c_skip <| n_then <| c_seq <| c_block <| c_seq ?_
    obtain ⟨hc5, hF⟩ := of_guard hF
    obtain ⟨ad6, c6, u6, he6, hl6, ho6⟩ := Ro.el_row h0 hc5.1 hc5.2
    obtain ⟨hc7, hF⟩ := of_guard hF
    obtain ⟨ad8, c8, u8, he8, hl8, ho8⟩ := Ro.el_row h1 hc7.1 hc7.2
    replace hf : Fr 27 a [(0, va0), (1, va1), (5, vI s3)] := hf.sub ⟨rfl, rfl, rfl, trivial⟩
    refine c_drawL (h := 8) mixed (by kernel_rfl) (by kernel_rfl) (fun ρ w => True) ?_ [fun ρ w v => va0 = v, fun ρ w v => vI s3 = v, fun ρ w v => .pointer (some (ad6.add (s3.toNat * 1))) = v, fun ρ w v => u6 = v, fun ρ w v => va1 = v, fun ρ w v => vI s3 = v, fun ρ w v => .pointer (some (ad8.add (s3.toNat * 1))) = v, fun ρ w v => u8 = v] ?_ hw trivial hf ?_ ?_
    · intro ρ w ρ' w' hE hG
      skip
      exact trivial
    · exact LastsL.cons (fun _ _ _ _ _ _ h => h) <| LastsL.cons (fun _ _ _ _ _ _ h => h) <| LastsL.cons (fun _ _ _ _ _ _ h => h) <| LastsL.cons (fun _ _ _ _ _ _ h => h) <| LastsL.cons (fun _ _ _ _ _ _ h => h) <| LastsL.cons (fun _ _ _ _ _ _ h => h) <| LastsL.cons (fun _ _ _ _ _ _ h => h) <| LastsL.cons (fun _ _ _ _ _ _ h => h) <| LastsL.nil
    · refine StepsB.cons ?_ <| StepsB.cons ?_ <| StepsB.cons ?_ <| StepsB.cons ?_ <| StepsB.cons ?_ <| StepsB.cons ?_ <| StepsB.cons ?_ <| StepsB.cons ?_ <| StepsB.nil
      · intro ρ w a hw hG hf hd K hK
        exact dv_ hK hw (wn rfl) (r_move hf rfl) rfl
      · intro ρ w a hw hG hf hd K hK
        exact dv_ hK hw (wn rfl) (r_move hf rfl) rfl
      · intro ρ w a hw hG hf hd K hK
        obtain ⟨_, hf, rfl⟩ := got (hd 0 (by kernel_rfl)) hf
        obtain ⟨_, hf, rfl⟩ := got (hd 1 (by kernel_rfl)) hf
        exact dv_ hK hw (wn rfl) (r_idx Try.underlying44 sz61 hf rfl ⟨_, he6⟩ rfl hc5.1 hc5.2) rfl
      · intro ρ w a hw hG hf hd K hK
        obtain ⟨_, hf, rfl⟩ := got (hd 2 (by kernel_rfl)) hf
        exact dv_ hK hw (wn rfl) (r_load_cell ty61 hf rfl (hl6.below hw.below)) rfl
      · intro ρ w a hw hG hf hd K hK
        exact dv_ hK hw (wn rfl) (r_move hf rfl) rfl
      · intro ρ w a hw hG hf hd K hK
        exact dv_ hK hw (wn rfl) (r_move hf rfl) rfl
      · intro ρ w a hw hG hf hd K hK
        obtain ⟨_, hf, rfl⟩ := got (hd 4 (by kernel_rfl)) hf
        obtain ⟨_, hf, rfl⟩ := got (hd 5 (by kernel_rfl)) hf
        exact dv_ hK hw (wn rfl) (r_idx Try.underlying44 sz61 hf rfl ⟨_, he8⟩ rfl hc7.1 hc7.2) rfl
      · intro ρ w a hw hG hf hd K hK
        obtain ⟨_, hf, rfl⟩ := got (hd 6 (by kernel_rfl)) hf
        exact dv_ hK hw (wn rfl) (r_load_cell ty61 hf rfl (hl8.below hw.below)) rfl
    intro ρ w a hw hG hf hd
    obtain ⟨_, hf, rfl⟩ := got (hd 3 (by decide)) hf
    obtain ⟨_, hf, rfl⟩ := got (hd 7 (by decide)) hf
    obtain ⟨x9, hx10, hF⟩ := of_bind hF
    refine st_fn 1 hw hf rfl rfl (by decide) (r_fn en48 hf rfl) (laws_eqInt64S_ok (ho6.now hw) (ho8.now hw) hx10) fun a v w ρ hf hw hE hN hΦ => ?_
    obtain rfl := hΦ
    refine s_ hf (r_not hf rfl) fun a hf => ?_
    refine c_nt ?_
    rcases of_ite hF with ⟨hb11, hF⟩ | ⟨hb11, hF⟩
    rotate_left
    · refine c_iff hf rfl hb11 <| c_skip <| n_block <| n_then <| c_region ?_
      refine s_ hf (r_move hf rfl) fun a hf => ?_
      refine s_ hf (r_add hf rfl rfl) fun a hf => ?_
      refine s_ hf (r_assign hf rfl) fun a hf => ?_
      refine c_nil ?_
      obtain rfl := Option.some.inj hF
      exact Rnd.goes ⟨_, hw, hf.sub ⟨rfl, rfl, rfl, trivial⟩⟩
    refine c_ift hf rfl hb11 <| c_seq <| c_region ?_
    refine s_ hf (r_assign hf rfl) fun a hf => ?_
    refine c_nt <| c_retc ?_
    obtain rfl := Option.some.inj hF
    refine r_block <| r_then ?_
    refine Rnd.rets fun ho => ?_
    subst ho
    have hF := hG2
    dsimp only at hF
    obtain rfl := Option.some.inj hF
    refine r_block <| r_then <| c_ret hf (res_tmp Try.results31 hf rfl) ?_
    exact ⟨_, rfl, hw.below, rfl⟩
  rintro s3 a w hs ⟨ρ, hw, hf⟩
  subst hs
  have hF := hG2
  dsimp only at hF
  refine x_block <| n_then <| c_seq <| c_region ?_
  refine s_ hf (r_assign hf rfl) fun a hf => ?_
  refine c_nt <| c_retc ?_
  obtain rfl := Option.some.inj hF
  refine c_ret hf (res_tmp Try.results31 hf rfl) ?_
  exact ⟨_, rfl, hw.below, rfl⟩
/-! f32 -/
noncomputable def laws_markInt64SS_l1 (a0 : List (List Int)) (s2 : Int) (s3 : Int) (s4 : List (List Int)) : Option (LR (Int × Int × (List (List Int))) (Int × (List (List Int)))) :=
  if (decide (s3 < ((List.range a0.length).length : Int))) = true then (if 0 ≤ s3 ∧ s3 < ((List.range a0.length).length : Int) then ((laws_markInt64S (s4.getD (gl 0 (List.range a0.length) s3) []) s2).bind fun x8 => some (.next (x8.1, w64 (s3 + 1), (s4.set (gl 0 (List.range a0.length) s3) x8.2)))) else none) else (some (.stop (s2, s3, s4)))
noncomputable def laws_markInt64SS (a0 : List (List Int)) (a1 : Int) : Option (Int × (List (List Int))) :=
  (iter (fun s => laws_markInt64SS_l1 a0 s.1 s.2.1 s.2.2) (a1, 0, a0)).bind fun o => match o with | .stop (s2, s3, s4) => (some ((s2, s4))) | .ret r => some r | .next _ => none
theorem laws_markInt64SS_ok {w0 ws : World} {ρ0 : Nat → Nat} {i : Nat} (hW : Wd w0 ρ0 ws) {a0 : List (List Int)} {a1 : Int} {va0 : Value} {f0 : Nat → V1} (h0 : Gd fI64 2 61 ρ0 ws w0.heap.size i va0 f0 (List.range a0.length) a0) {r : Int × (List (List Int))} (hF : laws_markInt64SS a0 a1 = some r) :
    Calls Try.prog 32 [va0, vI a1].toArray ws fun e w => ∃ v, e = .returned v ∧ ∃ ρ', Wd w0 ρ' w ∧ AdvG i ρ0 ws ρ' w ∧ .int .i64 r.1 = v ∧ Gd fI64 2 61 ρ' w w0.heap.size i va0 f0 (List.range a0.length) r.2 := by
  refine calls_of (k := 19) Try.func32 rfl rfl (Nat.le_of_ble_eq_true rfl) fun a hf => ?_
  replace hf : Fr 19 a [(0, va0), (1, vI a1)] := hf
  refine c_startg hW h0 fun w ρ hw oA o1 => ?_
  unfold laws_markInt64SS at hF
  refine c_seq <| c_region ?_
  refine s_ hf (r_assign hf rfl) fun a hf => ?_
  refine c_nt <| c_seq <| c_seq <| c_region ?_
  refine s_ hf (r_assign hf rfl) fun a hf => ?_
  refine c_nt ?_
  obtain ⟨ol1, ho1, hG1⟩ := of_bind hF
  clear hF
  refine c_block (c_loop (id := 0) (fun s => laws_markInt64SS_l1 a0 s.1 s.2.1 s.2.2) (fun (s : Int × Int × (List (List Int))) a w => match s with | (s2, s3, s4) => ∃ ρ, Wd w0 ρ w ∧ Fr 19 a [(0, va0), (1, vI s2), (5, vI s3)] ∧ Old (gOf ρ0 i) ws ρ w ∧ Gd fI64 2 61 ρ w w0.heap.size 1 va0 f0 (List.range a0.length) s4) (fun (s : Int × Int × (List (List Int))) a w => match s with | (s2, s3, s4) => ∃ ρ, Wd w0 ρ w ∧ Fr 19 a [(1, vI s2)] ∧ Old (gOf ρ0 i) ws ρ w ∧ Gd fI64 2 61 ρ w w0.heap.size 1 va0 f0 (List.range a0.length) s4) ho1 ⟨_, hw, hf.sub ⟨rfl, rfl, rfl, trivial⟩, oA, o1⟩ ?_ ?_)
  · rintro ⟨s2, s3, s4⟩ lr a w ⟨ρ, hw, hf, oA, o1⟩ hF
    replace hF : laws_markInt64SS_l1 a0 s2 s3 s4 = some lr := hF
    unfold laws_markInt64SS_l1 at hF
    refine c_seq <| c_seq <| c_region ?_
    refine s_ hf (r_move hf rfl) fun a hf => ?_
    refine s_ hf (r_move hf rfl) fun a hf => ?_
    refine s_ hf (r_len Try.underlying44 o1.out.ro hf rfl) fun a hf => ?_
    refine s_ hf (r_lss hf rfl rfl) fun a hf => ?_
    refine c_nt ?_
    rcases of_ite hF with ⟨hb5, hF⟩ | ⟨hb5, hF⟩
    rotate_left
    · refine c_iff hf rfl hb5 <| c_exit <| x_then ?_
      obtain rfl := Option.some.inj hF
      exact Rnd.stops ⟨_, hw, hf.sub ⟨rfl, trivial⟩, oA, o1⟩
    refine c_ift hf rfl hb5 <| c_skip <| n_then <| c_seq <| c_block <| c_region ?_
    refine s_ hf (r_move hf rfl) fun a hf => ?_
    refine s_ hf (r_move hf rfl) fun a hf => ?_
    obtain ⟨hc6, hF⟩ := of_guard hF
    obtain ⟨ad7, hl7⟩ := Ow.ce (d := fRef f0) o1.out 0 hc6.1 hc6.2
    have hn7 := o1.lt_gl hc6.1 hc6.2
    refine s_ hf (r_idx Try.underlying44 sz61 hf rfl hl7.at_ rfl hc6.1 hc6.2) fun a hf => ?_
    refine s_ hf (r_load_cell ty61 hf rfl hl7.co.cl) fun a hf => ?_
    refine s_ hf (r_move hf rfl) fun a hf => ?_
    obtain ⟨x8, hx9, hF⟩ := of_bind hF
    refine st_mfn hf rfl rfl (by decide) (r_fn en49 hf rfl) (laws_markInt64S_ok (by unfold lab; omega) hw (o1.rowAt hn7) hx9) fun a v w ρ hf hw hA hΦ => ?_
    obtain ⟨rfl, hr10⟩ := hΦ
    replace oA := oA.adv hA (by unfold lab; omega)
    replace hl7 := hl7.adv hA (by unfold lab; omega)
    replace o1 := o1.put_row hn7 hA hr10
    replace hn7 : (gl 0 (List.range a0.length) s3) < (s4.set (gl 0 (List.range a0.length) s3) x8.2).length := by simp only [List.length_append, List.length_set]; omega
    refine s_ hf (r_assign hf rfl) fun a hf => ?_
    refine c_nil <| n_block <| n_then <| c_region ?_
    refine s_ hf (r_move hf rfl) fun a hf => ?_
    refine s_ hf (r_add hf rfl rfl) fun a hf => ?_
    refine s_ hf (r_assign hf rfl) fun a hf => ?_
    refine c_nil ?_
    obtain rfl := Option.some.inj hF
    exact Rnd.goes ⟨_, hw, hf.sub ⟨rfl, rfl, rfl, trivial⟩, oA, o1⟩
  rintro ⟨s2, s3, s4⟩ a w hs ⟨ρ, hw, hf, oA, o1⟩
  subst hs
  have hF := hG1
  dsimp only at hF
  refine x_block <| n_then <| c_seq <| c_region ?_
  refine s_ hf (r_move hf rfl) fun a hf => ?_
  refine s_ hf (r_assign hf rfl) fun a hf => ?_
  refine c_nt <| c_retc ?_
  obtain rfl := Option.some.inj hF
  refine c_ret hf (res_tmp Try.results32 hf rfl) ?_
  exact ⟨_, rfl, _, g_wd hW hw oA, g_adv oA h0.small.2, rfl, g_gd oA h0.small o1⟩
/-! f33 -/
noncomputable def laws_heldInt64SS_l1 (a0 : List (List Int)) (s2 : Int) (s3 : Int) : Option (LR (Int × Int) Int) :=
  if (decide (s3 < (a0.length : Int))) = true then (if 0 ≤ s3 ∧ s3 < (a0.length : Int) then ((laws_heldInt64S (gl [] a0 s3) s2).bind fun x7 => if (decide (x7 < 0)) = true then (some (.ret (-1))) else (some (.next (x7, w64 (s3 + 1))))) else none) else (some (.stop (s2, s3)))
noncomputable def laws_heldInt64SS (a0 : List (List Int)) (a1 : Int) : Option Int :=
  (iter (fun s => laws_heldInt64SS_l1 a0 s.1 s.2) (a1, 0)).bind fun o => match o with | .stop (s2, s3) => (some (s2)) | .ret r => some r | .next _ => none
theorem laws_heldInt64SS_ok {w0 : World} {a0 : List (List Int)} {a1 : Int} {va0 : Value} (h0 : Ro (Kd.slice 2 (kf fI64)) w0 va0 a0) {r : Int} (hF : laws_heldInt64SS a0 a1 = some r) :
    Calls Try.prog 33 [va0, vI a1].toArray w0 fun e w => ∃ v, e = .returned v ∧ Below w0.heap.size w0 w ∧ .int .i64 r = v := by
  refine calls_of (k := 21) Try.func33 rfl rfl (Nat.le_of_ble_eq_true rfl) fun a hf => ?_
  replace hf : Fr 21 a [(0, va0), (1, vI a1)] := hf
  refine c_start fun w ρ hw => ?_
  unfold laws_heldInt64SS at hF
  refine c_seq <| c_region ?_
  refine s_ hf (r_assign hf rfl) fun a hf => ?_
  refine c_nt <| c_seq <| c_seq <| c_region ?_
  refine s_ hf (r_assign hf rfl) fun a hf => ?_
  refine c_nt ?_
  obtain ⟨ol1, ho1, hG1⟩ := of_bind hF
  clear hF
  refine c_block (c_loop (id := 0) (fun s => laws_heldInt64SS_l1 a0 s.1 s.2) (fun (s : Int × Int) a w => match s with | (s2, s3) => ∃ ρ, Wd w0 ρ w ∧ Fr 21 a [(0, va0), (1, vI s2), (5, vI s3)]) (fun (s : Int × Int) a w => match s with | (s2, s3) => ∃ ρ, Wd w0 ρ w ∧ Fr 21 a [(1, vI s2)]) ho1 ⟨_, hw, hf.sub ⟨rfl, rfl, rfl, trivial⟩⟩ ?_ ?_)
  · rintro ⟨s2, s3⟩ lr a w ⟨ρ, hw, hf⟩ hF
    replace hF : laws_heldInt64SS_l1 a0 s2 s3 = some lr := hF
    unfold laws_heldInt64SS_l1 at hF
    refine c_seq <| c_seq <| c_region ?_
    refine s_ hf (r_move hf rfl) fun a hf => ?_
    refine s_ hf (r_move hf rfl) fun a hf => ?_
    refine s_ hf (r_len Try.underlying44 (h0.now hw) hf rfl) fun a hf => ?_
    refine s_ hf (r_lss hf rfl rfl) fun a hf => ?_
    refine c_nt ?_
    rcases of_ite hF with ⟨hb4, hF⟩ | ⟨hb4, hF⟩
    rotate_left
    · refine c_iff hf rfl hb4 <| c_exit <| x_then ?_
      obtain rfl := Option.some.inj hF
      exact Rnd.stops ⟨_, hw, hf.sub ⟨rfl, trivial⟩⟩
    refine c_ift hf rfl hb4 <| c_skip <| n_then <| c_seq <| c_block <| c_seq <| c_region ?_
    refine s_ hf (r_move hf rfl) fun a hf => ?_
    refine s_ hf (r_move hf rfl) fun a hf => ?_
    obtain ⟨hc5, hF⟩ := of_guard hF
    obtain ⟨ad6, c6, u6, he6, hl6, ho6⟩ := Ro.el_row h0 hc5.1 hc5.2
    refine s_ hf (r_idx Try.underlying44 sz61 hf rfl ⟨_, he6⟩ rfl hc5.1 hc5.2) fun a hf => ?_
    refine s_ hf (r_load_cell ty61 hf rfl (hl6.below hw.below)) fun a hf => ?_
    refine s_ hf (r_move hf rfl) fun a hf => ?_
    obtain ⟨x7, hx8, hF⟩ := of_bind hF
    refine st_fn 1 hw hf rfl rfl (by decide) (r_fn en93 hf rfl) (laws_heldInt64S_ok (ho6.now hw) hx8) fun a v w ρ hf hw hE hN hΦ => ?_
    obtain rfl := hΦ
    refine s_ hf (r_assign hf rfl) fun a hf => ?_
    refine c_nt <| c_seq <| c_region ?_
    refine s_ hf (r_move hf rfl) fun a hf => ?_
    refine s_ hf (r_lss hf rfl rfl) fun a hf => ?_
    refine c_nt ?_
    rcases of_ite hF with ⟨hb9, hF⟩ | ⟨hb9, hF⟩
    rotate_left
    · refine c_iff hf rfl hb9 <| c_skip <| n_block <| n_then <| c_region ?_
      refine s_ hf (r_move hf rfl) fun a hf => ?_
      refine s_ hf (r_add hf rfl rfl) fun a hf => ?_
      refine s_ hf (r_assign hf rfl) fun a hf => ?_
      refine c_nil ?_
      obtain rfl := Option.some.inj hF
      exact Rnd.goes ⟨_, hw, hf.sub ⟨rfl, rfl, rfl, trivial⟩⟩
    refine c_ift hf rfl hb9 <| c_seq <| c_region ?_
    refine s_ hf (r_assign hf rfl) fun a hf => ?_
    refine c_nt <| c_retc ?_
    obtain rfl := Option.some.inj hF
    refine r_block <| r_then ?_
    refine Rnd.rets fun ho => ?_
    subst ho
    have hF := hG1
    dsimp only at hF
    obtain rfl := Option.some.inj hF
    refine r_block <| r_then <| c_ret hf (res_tmp Try.results33 hf rfl) ?_
    exact ⟨_, rfl, hw.below, rfl⟩
  rintro ⟨s2, s3⟩ a w hs ⟨ρ, hw, hf⟩
  subst hs
  have hF := hG1
  dsimp only at hF
  refine x_block <| n_then <| c_seq <| c_region ?_
  refine s_ hf (r_move hf rfl) fun a hf => ?_
  refine s_ hf (r_assign hf rfl) fun a hf => ?_
  refine c_nt <| c_retc ?_
  obtain rfl := Option.some.inj hF
  refine c_ret hf (res_tmp Try.results33 hf rfl) ?_
  exact ⟨_, rfl, hw.below, rfl⟩
/-! f8 -/
noncomputable def laws_FnExactRanksOf (a0 : Sch) : Option Bool :=
  (laws_szScheme a0 1048576).bind fun x1 => if (decide (x1 < 0)) = true then (some (true)) else ((laws_toScheme a0).bind fun x4 => (spec_RanksOf x4).bind fun x8 => (laws_toScheme a0).bind fun x12 => (impl_RanksOf x12).bind fun x16 => ((laws_eqInt64SS (gi (List.range x16.1.length) x16.1) x8.1).bind fun x21 => if (!x21) = true then (some true) else (some (decide (x16.2 ≠ x8.2)))).bind fun (s20 : Bool) => if s20 = true then (some (false)) else ((laws_toScheme a0).bind fun x25 => (laws_eqScheme x12 x25).bind fun x29 => if (!x29) = true then (some (false)) else ((laws_markScheme x12 1).bind fun x32 => (if (decide (x32.1 < 0)) = true then (some true) else ((laws_eqInt64SS (gi (List.range x16.1.length) x16.1) x8.1).bind fun x37 => if (!x37) = true then (some true) else (some (decide (x16.2 ≠ x8.2))))).bind fun (s35 : Bool) => if s35 = true then (some (false)) else ((laws_markInt64SS x16.1 1).bind fun x41 => (laws_heldInt64SS (gi (List.range x16.1.length) x41.2) 1).bind fun x43 => if (decide (x43 < 0)) = true then (some (false)) else (if (decide (x43 ≠ x41.1)) = true then (some (false)) else ((laws_toScheme a0).bind fun x47 => (impl_RanksOf x47).bind fun x51 => ((laws_eqInt64SS (gi (List.range x51.1.length) x51.1) x8.1).bind fun x56 => if (!x56) = true then (some true) else (some (decide (x51.2 ≠ x8.2)))).bind fun (s55 : Bool) => if s55 = true then (some (false)) else ((laws_heldInt64SS (gi (List.range x16.1.length) x41.2) 1).bind fun x60 => if (decide (x60 < 0)) = true then (some (false)) else (if (decide (x60 ≠ x41.1)) = true then (some (false)) else (some (true))))))))))
theorem laws_FnExactRanksOf_ok {w0 : World} {a0 : Sch} {va0 : Value} (h0 : Ro (kf cProd) w0 va0 a0.ps) {r : Bool} (hF : laws_FnExactRanksOf a0 = some r) :
    Calls Try.prog 8 [.agg ([vI a0.p, vI a0.n, vI a0.m, vI a0.k, va0]).toArray].toArray w0 fun e w => ∃ v, e = .returned v ∧ Below w0.heap.size w0 w ∧ .bool r = v := by
  refine calls_of (k := 96) Try.func8 rfl rfl (Nat.le_of_ble_eq_true rfl) fun a hf => ?_
  replace hf : Fr 96 a [(0, .agg ([vI a0.p, vI a0.n, vI a0.m, vI a0.k, va0]).toArray)] := hf
  refine c_start fun w ρ hw => ?_
  unfold laws_FnExactRanksOf at hF
  refine c_seq <| c_region ?_
  refine sx_ hf (r_box (cs := [vI a0.p, vI a0.n, vI a0.m, vI a0.k, va0]) 1 hw hf rfl rfl) fun a v w hf hΦ => ?_
  obtain ⟨g1, ρ, rfl, hw, hE, o1⟩ := hΦ
  refine s_ hf (r_assign hf rfl) fun a hf => ?_
  refine c_nt <| c_seq <| c_region ?_
  refine s_ hf (r_assign hf rfl) fun a hf => ?_
  refine c_nt <| c_seq <| c_region ?_
  refine s_ hf (r_load_agg ty24 hf rfl o1.cl rfl) fun a hf => ?_
  refine s_ hf (r_move hf rfl) fun a hf => ?_
  obtain ⟨x1, hx2, hF⟩ := of_bind hF
  refine st_fn 2 hw hf rfl rfl (by decide) (r_fn en13 hf rfl) (laws_szScheme_ok (a0 := a0) (h0.now hw) hx2) fun a v w ρ hf hw hE hN hΦ => ?_
  obtain rfl := hΦ
  replace o1 := o1.ext hE
  refine s_ hf (r_assign hf rfl) fun a hf => ?_
  refine c_nt <| c_seq <| c_seq <| c_region ?_
  refine s_ hf (r_move hf rfl) fun a hf => ?_
  refine s_ hf (r_lss hf rfl rfl) fun a hf => ?_
  refine c_nt ?_
  rcases of_ite hF with ⟨hb3, hF⟩ | ⟨hb3, hF⟩
  · refine c_ift hf rfl hb3 <| c_seq <| c_region ?_
    refine s_ hf (r_assign hf rfl) fun a hf => ?_
    refine c_nt <| c_retc ?_
    obtain rfl := Option.some.inj hF
    refine r_then <| c_ret hf (res_tmp Try.results8 hf rfl) ?_
    exact ⟨_, rfl, hw.below, rfl⟩
  refine c_iff hf rfl hb3 <| c_skip <| n_then <| c_seq <| c_region ?_
  refine s_ hf (r_load_agg ty24 hf rfl o1.cl rfl) fun a hf => ?_
  obtain ⟨x4, hx5, hF⟩ := of_bind hF
  refine st_fn 3 hw hf rfl rfl (by decide) (r_fn en15 hf rfl) (laws_toScheme_ok (a0 := a0) (h0.now hw) hx5) fun a v w ρ hf hw hE hN hΦ => ?_
  obtain ⟨u6, rfl, hr7⟩ := hΦ
  replace o1 := o1.ext hE
  have o3 := hN hr7
  obtain ⟨x8, hx9, hF⟩ := of_bind hF
  refine st_fn 4 hw hf rfl rfl (by decide) (r_fn en29 hf rfl) (spec_RanksOf_ok (a0 := x4) o3.ro hx9) fun a v w ρ hf hw hE hN hΦ => ?_
  obtain ⟨u10, rfl, hr11⟩ := hΦ
  replace o1 := o1.ext hE
  replace o3 := o3.ext hE
  have o4 := hN hr11
  refine s_ hf (r_move hf rfl) fun a hf => ?_
  refine s_ hf (r_extract hf rfl rfl) fun a hf => ?_
  refine s_ hf (r_extract hf rfl rfl) fun a hf => ?_
  refine s_ hf (r_assign hf rfl) fun a hf => ?_
  refine s_ hf (r_assign hf rfl) fun a hf => ?_
  refine c_nt <| c_seq <| c_region ?_
  refine s_ hf (r_load_agg ty24 hf rfl o1.cl rfl) fun a hf => ?_
  obtain ⟨x12, hx13, hF⟩ := of_bind hF
  refine st_fn 5 hw hf rfl rfl (by decide) (r_fn en15 hf rfl) (laws_toScheme_ok (a0 := a0) (h0.now hw) hx13) fun a v w ρ hf hw hE hN hΦ => ?_
  obtain ⟨u14, rfl, hr15⟩ := hΦ
  replace o1 := o1.ext hE
  replace o3 := o3.ext hE
  replace o4 := o4.ext hE
  have o5 := hN hr15
  have o7 : Ow (kf cProd) 78 ρ w w0.heap.size 7 (.slice none 0 0) [] := Ow.nil _ _ _ _ _ _
  refine sx_ hf (r_alloc (cs := [vI 0, vI 0, vI 0, vI 0, (.slice none 0 0)]) 6 ze28 rfl hw) fun a v w hf hΦ => ?_
  obtain ⟨g6, ρ, rfl, hw, hE, o6⟩ := hΦ
  replace o1 := o1.ext hE
  replace o3 := o3.ext hE
  replace o4 := o4.ext hE
  replace o5 := o5.ext hE
  replace o7 := o7.ext hE
  refine sk_ hf (r_store_w (cs' := [vI x12.p, vI x12.n, vI x12.m, vI x12.k, u14]) hw o6 (by decide) ty28 rfl rfl (one_sch o5.ro.one) hf rfl rfl rfl) fun a w hf hΦ => ?_
  obtain ⟨hw, hA, o6⟩ := hΦ
  replace o1 := o1.adv hA (by decide)
  replace o3 := o3.adv hA (by decide)
  replace o4 := o4.adv hA (by decide)
  replace o5 := o5.adv hA (by decide)
  replace o7 := o7.adv hA (by decide)
  refine c_nt <| c_seq <| c_region ?_
  refine s_ hf (r_load_agg ty28 hf rfl o6.cl rfl) fun a hf => ?_
  obtain ⟨x16, hx17, hF⟩ := of_bind hF
  refine st_fnr hf (r_fn en30 hf rfl) (impl_RanksOf_ok (a0 := x12) o5.ro hx17) fun a v w hf hb hΦ => ?_
  obtain ⟨u18, rfl, hg⟩ := hΦ
  obtain ⟨f8, ρ, hw, hE, o8⟩ := hg.own hw hb 8 (by decide)
  replace o1 := o1.ext hE
  replace o3 := o3.ext hE
  replace o4 := o4.ext hE
  replace o5 := o5.ext hE
  replace o7 := o7.ext hE
  replace o6 := o6.ext hE
  refine s_ hf (r_move hf rfl) fun a hf => ?_
  refine s_ hf (r_extract hf rfl rfl) fun a hf => ?_
  refine s_ hf (r_extract hf rfl rfl) fun a hf => ?_
  refine s_ hf (r_assign hf rfl) fun a hf => ?_
  refine s_ hf (r_assign hf rfl) fun a hf => ?_
  refine c_nt <| c_seq <| c_seq ?_
  obtain ⟨s20, hT19, hG19⟩ := of_bind hF
  clear hF
  refine c_meet (fun (s20 : Bool) a w => ∃ ρ, Wd w0 ρ w ∧ Fr 96 a [(1, .pointer (some ((⟨g1, 0, none⟩ : Addr).add 0))), (4, u10), (5, vI x8.2), (6, .pointer (some ((⟨g6, 0, none⟩ : Addr).add 0))), (7, u18), (8, vI x16.2), (40, .bool s20)] ∧ Va ρ w 1 g1 24 ([vI a0.p, vI a0.n, vI a0.m, vI a0.k, va0]) ∧ O61 ρ w w0 4 u10 x8.1 ∧ O78 ρ w w0 5 u14 x12.ps ∧ Va ρ w 6 g6 28 ([vI x12.p, vI x12.n, vI x12.m, vI x12.k, u14]) ∧ Gd fI64 2 61 ρ w w0.heap.size 8 u18 f8 (List.range x16.1.length) x16.1) s20 ?_ ?_
  · have hF := hT19
    refine c_region ?_
    refine s_ hf (r_move hf rfl) fun a hf => ?_
    refine s_ hf (r_move hf rfl) fun a hf => ?_
    obtain ⟨x21, hx22, hF⟩ := of_bind hF
    refine st_fn 9 hw hf rfl rfl (by decide) (r_fn en31 hf rfl) (laws_eqInt64SS_ok o8.ro o4.ro hx22) fun a v w ρ hf hw hE hN hΦ => ?_
    obtain rfl := hΦ
    replace o1 := o1.ext hE
    replace o3 := o3.ext hE
    replace o4 := o4.ext hE
    replace o5 := o5.ext hE
    replace o7 := o7.ext hE
    replace o6 := o6.ext hE
    replace o8 := o8.ext hE
    refine s_ hf (r_not hf rfl) fun a hf => ?_
    refine s_ hf (r_move hf rfl) fun a hf => ?_
    rcases of_ite hF with ⟨hb23, hF⟩ | ⟨hb23, hF⟩
    · refine st_no (b := true) hf rfl rfl rfl hb23 rfl (by decide) fun a hf => ?_
      refine st_no (b := true) hf rfl rfl rfl hb23 rfl (by decide) fun a hf => ?_
      refine st_no (b := true) hf rfl rfl rfl hb23 rfl (by decide) fun a hf => ?_
      refine s_ hf (r_pick (b := true) hf rfl hb23 rfl) fun a hf => ?_
      refine c_nil ⟨rfl, ?_⟩
      obtain rfl := Option.some.inj hF
      exact ⟨_, hw, hf.sub ⟨rfl, rfl, rfl, rfl, rfl, rfl, rfl, trivial⟩, o1, o4, o5, o6, o8⟩
    refine st_g (b := false) hf rfl rfl rfl hb23 rfl (by decide) (r_move hf rfl) fun a hf => ?_
    refine st_g (b := false) hf rfl rfl rfl hb23 rfl (by decide) (r_move hf rfl) fun a hf => ?_
    refine st_g (b := false) hf rfl rfl rfl hb23 rfl (by decide) (r_neq hf rfl rfl) fun a hf => ?_
    refine s_ hf (r_pick (b := false) hf rfl hb23 rfl) fun a hf => ?_
    refine c_nil ⟨rfl, ?_⟩
    obtain rfl := Option.some.inj hF
    exact ⟨_, hw, hf.sub ⟨rfl, rfl, rfl, rfl, rfl, rfl, rfl, trivial⟩, o1, o4, o5, o6, o8⟩
  rintro a w ⟨ρ, hw, hf, o1, o4, o5, o6, o8⟩
  have hF := hG19
  refine n_then ?_
  rcases of_ite hF with ⟨hb24, hF⟩ | ⟨hb24, hF⟩
  · refine c_ift hf rfl hb24 <| c_seq <| c_region ?_
    refine s_ hf (r_assign hf rfl) fun a hf => ?_
    refine c_nt <| c_retc ?_
    obtain rfl := Option.some.inj hF
    refine r_then <| c_ret hf (res_tmp Try.results8 hf rfl) ?_
    exact ⟨_, rfl, hw.below, rfl⟩
  refine c_iff hf rfl hb24 <| c_skip <| n_then <| c_seq <| c_seq ?_
  obtain ⟨x25, hx26, hF⟩ := of_bind hF
  replace hf : Fr 96 a [(1, .pointer (some ((⟨g1, 0, none⟩ : Addr).add 0))), (4, u10), (5, vI x8.2), (6, .pointer (some ((⟨g6, 0, none⟩ : Addr).add 0))), (7, u18), (8, vI x16.2)] := hf.sub ⟨rfl, rfl, rfl, rfl, rfl, rfl, trivial⟩
  refine c_drawL (h := 3) mixed (by kernel_rfl) (by kernel_rfl) (fun ρ w => Va ρ w 1 g1 24 ([vI a0.p, vI a0.n, vI a0.m, vI a0.k, va0]) ∧ O61 ρ w w0 4 u10 x8.1 ∧ O78 ρ w w0 5 u14 x12.ps ∧ Va ρ w 6 g6 28 ([vI x12.p, vI x12.n, vI x12.m, vI x12.k, u14]) ∧ Gd fI64 2 61 ρ w w0.heap.size 8 u18 f8 (List.range x16.1.length) x16.1) ?_ [fun ρ w v => .agg ([vI x12.p, vI x12.n, vI x12.m, vI x12.k, u14]).toArray = v, fun ρ w v => .agg ([vI a0.p, vI a0.n, vI a0.m, vI a0.k, va0]).toArray = v, fun ρ w v => ∃ u27, .agg ([vI x25.p, vI x25.n, vI x25.m, vI x25.k, u27]).toArray = v ∧ O78 ρ w w0 10 u27 x25.ps] ?_ hw ⟨o1, o4, o5, o6, o8⟩ hf ?_ ?_
  · intro ρ w ρ' w' hE hG
    obtain ⟨o1, o4, o5, o6, o8⟩ := hG
    exact ⟨o1.ext hE, o4.ext hE, o5.ext hE, o6.ext hE, o8.ext hE⟩
  · exact LastsL.cons (fun _ _ _ _ _ _ h => h) <| LastsL.cons (fun _ _ _ _ _ _ h => h) <| LastsL.cons (fun _ _ _ _ _ hE h => by obtain ⟨u27, h, o10⟩ := h; exact ⟨_, h, o10.ext hE⟩) <| LastsL.nil
  · refine StepsB.cons ?_ <| StepsB.cons ?_ <| StepsB.cons ?_ <| StepsB.nil
    · intro ρ w a hw hG hf hd K hK
      obtain ⟨o1, o4, o5, o6, o8⟩ := hG
      exact dv_ hK hw (wn rfl) (r_load_agg ty28 hf rfl o6.cl rfl) rfl
    · intro ρ w a hw hG hf hd K hK
      obtain ⟨o1, o4, o5, o6, o8⟩ := hG
      exact dv_ hK hw (wn rfl) (r_load_agg ty24 hf rfl o1.cl rfl) rfl
    · intro ρ w a hw hG hf hd K hK
      obtain ⟨o1, o4, o5, o6, o8⟩ := hG
      obtain ⟨_, hf, rfl⟩ := got (hd 1 (by kernel_rfl)) hf
      refine dc_ hK hw (wn rfl) (r_fn en15 hf rfl) (laws_toScheme_ok (a0 := a0) (h0.now hw) hx26) fun v w' hΦ => ?_
      obtain ⟨hb, hΦ⟩ := hΦ
      obtain ⟨u27, rfl, hr28⟩ := hΦ
      have hE := Ext.new (ρ := ρ) 10 hb
      have o10 := Fresh.own (ρ := ρ) (B := w0.heap.size) hr28 hw.below.size 10
      exact ⟨_, hw.new 10 hb, hE, ex_ <| an_ rfl <| o10⟩
  intro ρ w a hw hG hf hd
  obtain ⟨o1, o4, o5, o6, o8⟩ := hG
  obtain ⟨_, hf, rfl⟩ := got (hd 0 (by decide)) hf
  obtain ⟨_, hf, ⟨u27, rfl, o10⟩⟩ := got (hd 2 (by decide)) hf
  obtain ⟨x29, hx30, hF⟩ := of_bind hF
  refine st_fn 11 hw hf rfl rfl (by decide) (r_fn en17 hf rfl) (laws_eqScheme_ok (a0 := x12) (a1 := x25) o5.ro o10.ro hx30) fun a v w ρ hf hw hE hN hΦ => ?_
  obtain rfl := hΦ
  replace o1 := o1.ext hE
  replace o4 := o4.ext hE
  replace o5 := o5.ext hE
  replace o6 := o6.ext hE
  replace o8 := o8.ext hE
  replace o10 := o10.ext hE
  refine s_ hf (r_not hf rfl) fun a hf => ?_
  refine c_nt ?_
  rcases of_ite hF with ⟨hb31, hF⟩ | ⟨hb31, hF⟩
  · refine c_ift hf rfl hb31 <| c_seq <| c_region ?_
    refine s_ hf (r_assign hf rfl) fun a hf => ?_
    refine c_nt <| c_retc ?_
    obtain rfl := Option.some.inj hF
    refine r_then <| c_ret hf (res_tmp Try.results8 hf rfl) ?_
    exact ⟨_, rfl, hw.below, rfl⟩
  refine c_iff hf rfl hb31 <| c_skip <| n_then <| c_seq <| c_region ?_
  refine s_ hf (r_assign hf rfl) fun a hf => ?_
  refine c_nt <| c_seq <| c_region ?_
  refine s_ hf (r_load_agg ty28 hf rfl o6.cl rfl) fun a hf => ?_
  refine s_ hf (r_move hf rfl) fun a hf => ?_
  obtain ⟨x32, hx33, hF⟩ := of_bind hF
  refine st_mfn hf rfl rfl (by decide) (r_fn en18 hf rfl) (laws_markScheme_ok (a0 := x12) (by decide) hw o5 hx33) fun a v w ρ hf hw hA hΦ => ?_
  obtain ⟨rfl, o5⟩ := hΦ
  replace o1 := o1.adv hA (by decide)
  replace o4 := o4.adv hA (by decide)
  replace o6 := o6.adv hA (by decide)
  replace o8 := o8.adv hA (by decide) (fun _ => by unfold lab; omega)
  replace o10 := o10.adv hA (by decide)
  refine s_ hf (r_assign hf rfl) fun a hf => ?_
  refine c_nt <| c_seq <| c_seq ?_
  obtain ⟨s35, hT34, hG34⟩ := of_bind hF
  clear hF
  refine c_meet (fun (s35 : Bool) a w => ∃ ρ, Wd w0 ρ w ∧ Fr 96 a [(1, .pointer (some ((⟨g1, 0, none⟩ : Addr).add 0))), (4, u10), (5, vI x8.2), (7, u18), (61, .bool s35)] ∧ Va ρ w 1 g1 24 ([vI a0.p, vI a0.n, vI a0.m, vI a0.k, va0]) ∧ O61 ρ w w0 4 u10 x8.1 ∧ Gd fI64 2 61 ρ w w0.heap.size 8 u18 f8 (List.range x16.1.length) x16.1) s35 ?_ ?_
  · have hF := hT34
    refine c_region ?_
    refine s_ hf (r_move hf rfl) fun a hf => ?_
    refine s_ hf (r_lss hf rfl rfl) fun a hf => ?_
    refine s_ hf (r_move hf rfl) fun a hf => ?_
    rcases of_ite hF with ⟨hb36, hF⟩ | ⟨hb36, hF⟩
    · refine st_no (b := true) hf rfl rfl rfl hb36 rfl (by decide) fun a hf => ?_
      refine st_no (b := true) hf rfl rfl rfl hb36 rfl (by decide) fun a hf => ?_
      refine st_no (b := true) hf rfl rfl rfl hb36 rfl (by decide) fun a hf => ?_
      refine st_no (b := true) hf rfl rfl rfl hb36 rfl (by decide) fun a hf => ?_
      refine s_ hf (r_pick (b := true) hf rfl hb36 rfl) fun a hf => ?_
      refine s_ hf (r_move hf rfl) fun a hf => ?_
      refine st_no (b := true) hf rfl rfl rfl rfl rfl (by decide) fun a hf => ?_
      refine st_no (b := true) hf rfl rfl rfl rfl rfl (by decide) fun a hf => ?_
      refine st_no (b := true) hf rfl rfl rfl rfl rfl (by decide) fun a hf => ?_
      refine s_ hf (r_pick (b := true) hf rfl rfl rfl) fun a hf => ?_
      refine c_nil ⟨rfl, ?_⟩
      obtain rfl := Option.some.inj hF
      exact ⟨_, hw, hf.sub ⟨rfl, rfl, rfl, rfl, rfl, trivial⟩, o1, o4, o8⟩
    refine st_g (b := false) hf rfl rfl rfl hb36 rfl (by decide) (r_move hf rfl) fun a hf => ?_
    refine st_g (b := false) hf rfl rfl rfl hb36 rfl (by decide) (r_move hf rfl) fun a hf => ?_
    obtain ⟨x37, hx38, hF⟩ := of_bind hF
    refine st_gfn (b := false) 12 hw hf rfl rfl rfl hb36 rfl (by decide) (r_fn en31 hf rfl) (laws_eqInt64SS_ok o8.ro o4.ro hx38) fun a v w ρ hf hw hE hN hΦ => ?_
    obtain rfl := hΦ
    replace o1 := o1.ext hE
    replace o4 := o4.ext hE
    replace o5 := o5.ext hE
    replace o6 := o6.ext hE
    replace o8 := o8.ext hE
    replace o10 := o10.ext hE
    refine st_g (b := false) hf rfl rfl rfl hb36 rfl (by decide) (r_not hf rfl) fun a hf => ?_
    refine s_ hf (r_pick (b := false) hf rfl hb36 rfl) fun a hf => ?_
    refine s_ hf (r_move hf rfl) fun a hf => ?_
    rcases of_ite hF with ⟨hb39, hF⟩ | ⟨hb39, hF⟩
    · refine st_no (b := true) hf rfl rfl rfl hb39 rfl (by decide) fun a hf => ?_
      refine st_no (b := true) hf rfl rfl rfl hb39 rfl (by decide) fun a hf => ?_
      refine st_no (b := true) hf rfl rfl rfl hb39 rfl (by decide) fun a hf => ?_
      refine s_ hf (r_pick (b := true) hf rfl hb39 rfl) fun a hf => ?_
      refine c_nil ⟨rfl, ?_⟩
      obtain rfl := Option.some.inj hF
      exact ⟨_, hw, hf.sub ⟨rfl, rfl, rfl, rfl, rfl, trivial⟩, o1, o4, o8⟩
    refine st_g (b := false) hf rfl rfl rfl hb39 rfl (by decide) (r_move hf rfl) fun a hf => ?_
    refine st_g (b := false) hf rfl rfl rfl hb39 rfl (by decide) (r_move hf rfl) fun a hf => ?_
    refine st_g (b := false) hf rfl rfl rfl hb39 rfl (by decide) (r_neq hf rfl rfl) fun a hf => ?_
    refine s_ hf (r_pick (b := false) hf rfl hb39 rfl) fun a hf => ?_
    refine c_nil ⟨rfl, ?_⟩
    obtain rfl := Option.some.inj hF
    exact ⟨_, hw, hf.sub ⟨rfl, rfl, rfl, rfl, rfl, trivial⟩, o1, o4, o8⟩
  rintro a w ⟨ρ, hw, hf, o1, o4, o8⟩
  have hF := hG34
  refine n_then ?_
  rcases of_ite hF with ⟨hb40, hF⟩ | ⟨hb40, hF⟩
  · refine c_ift hf rfl hb40 <| c_seq <| c_region ?_
    refine s_ hf (r_assign hf rfl) fun a hf => ?_
    refine c_nt <| c_retc ?_
    obtain rfl := Option.some.inj hF
    refine r_then <| c_ret hf (res_tmp Try.results8 hf rfl) ?_
    exact ⟨_, rfl, hw.below, rfl⟩
  refine c_iff hf rfl hb40 <| c_skip <| n_then <| c_seq <| c_region ?_
  refine s_ hf (r_assign hf rfl) fun a hf => ?_
  refine c_nt <| c_seq <| c_region ?_
  refine s_ hf (r_move hf rfl) fun a hf => ?_
  refine s_ hf (r_move hf rfl) fun a hf => ?_
  obtain ⟨x41, hx42, hF⟩ := of_bind hF
  refine st_gmfn hf rfl rfl (by decide) (r_fn en32 hf rfl) (laws_markInt64SS_ok hw o8 hx42) fun a v w ρ hf hw hA hΦ => ?_
  obtain ⟨rfl, o8⟩ := hΦ
  replace o1 := o1.tr (hA.tr 1 (by decide) (fun _ => by unfold lab; omega))
  replace o4 := o4.tr (hA.tr 4 (by decide) (fun _ => by unfold lab; omega))
  refine s_ hf (r_assign hf rfl) fun a hf => ?_
  refine c_nt <| c_seq <| c_region ?_
  refine s_ hf (r_assign hf rfl) fun a hf => ?_
  refine c_nt <| c_seq <| c_region ?_
  refine s_ hf (r_move hf rfl) fun a hf => ?_
  refine s_ hf (r_move hf rfl) fun a hf => ?_
  obtain ⟨x43, hx44, hF⟩ := of_bind hF
  refine st_fn 13 hw hf rfl rfl (by decide) (r_fn en33 hf rfl) (laws_heldInt64SS_ok o8.ro hx44) fun a v w ρ hf hw hE hN hΦ => ?_
  obtain rfl := hΦ
  replace o1 := o1.ext hE
  replace o4 := o4.ext hE
  replace o8 := o8.ext hE
  refine s_ hf (r_assign hf rfl) fun a hf => ?_
  refine c_nt <| c_seq <| c_seq <| c_region ?_
  refine s_ hf (r_move hf rfl) fun a hf => ?_
  refine s_ hf (r_lss hf rfl rfl) fun a hf => ?_
  refine c_nt ?_
  rcases of_ite hF with ⟨hb45, hF⟩ | ⟨hb45, hF⟩
  · refine c_ift hf rfl hb45 <| c_seq <| c_region ?_
    refine s_ hf (r_assign hf rfl) fun a hf => ?_
    refine c_nt <| c_retc ?_
    obtain rfl := Option.some.inj hF
    refine r_then <| c_ret hf (res_tmp Try.results8 hf rfl) ?_
    exact ⟨_, rfl, hw.below, rfl⟩
  refine c_iff hf rfl hb45 <| c_skip <| n_then <| c_seq <| c_seq <| c_region ?_
  refine s_ hf (r_move hf rfl) fun a hf => ?_
  refine s_ hf (r_move hf rfl) fun a hf => ?_
  refine s_ hf (r_neq hf rfl rfl) fun a hf => ?_
  refine c_nt ?_
  rcases of_ite hF with ⟨hb46, hF⟩ | ⟨hb46, hF⟩
  · refine c_ift hf rfl hb46 <| c_seq <| c_region ?_
    refine s_ hf (r_assign hf rfl) fun a hf => ?_
    refine c_nt <| c_retc ?_
    obtain rfl := Option.some.inj hF
    refine r_then <| c_ret hf (res_tmp Try.results8 hf rfl) ?_
    exact ⟨_, rfl, hw.below, rfl⟩
  refine c_iff hf rfl hb46 <| c_skip <| n_then <| c_seq <| c_region ?_
  refine s_ hf (r_load_agg ty24 hf rfl o1.cl rfl) fun a hf => ?_
  obtain ⟨x47, hx48, hF⟩ := of_bind hF
  refine st_fn 14 hw hf rfl rfl (by decide) (r_fn en15 hf rfl) (laws_toScheme_ok (a0 := a0) (h0.now hw) hx48) fun a v w ρ hf hw hE hN hΦ => ?_
  obtain ⟨u49, rfl, hr50⟩ := hΦ
  replace o1 := o1.ext hE
  replace o4 := o4.ext hE
  replace o8 := o8.ext hE
  have o14 := hN hr50
  obtain ⟨x51, hx52, hF⟩ := of_bind hF
  refine st_fnr hf (r_fn en30 hf rfl) (impl_RanksOf_ok (a0 := x47) o14.ro hx52) fun a v w hf hb hΦ => ?_
  obtain ⟨u53, rfl, hg⟩ := hΦ
  obtain ⟨f15, ρ, hw, hE, o15⟩ := hg.own hw hb 15 (by decide)
  replace o1 := o1.ext hE
  replace o4 := o4.ext hE
  replace o8 := o8.ext hE
  replace o14 := o14.ext hE
  refine s_ hf (r_move hf rfl) fun a hf => ?_
  refine s_ hf (r_extract hf rfl rfl) fun a hf => ?_
  refine s_ hf (r_extract hf rfl rfl) fun a hf => ?_
  refine s_ hf (r_assign hf rfl) fun a hf => ?_
  refine s_ hf (r_assign hf rfl) fun a hf => ?_
  refine c_nt <| c_seq <| c_seq ?_
  obtain ⟨s55, hT54, hG54⟩ := of_bind hF
  clear hF
  refine c_meet (fun (s55 : Bool) a w => ∃ ρ, Wd w0 ρ w ∧ Fr 96 a [(7, u18), (10, vI x41.1), (87, .bool s55)] ∧ Gd fI64 2 61 ρ w w0.heap.size 8 u18 f8 (List.range x16.1.length) x41.2) s55 ?_ ?_
  · have hF := hT54
    refine c_region ?_
    refine s_ hf (r_move hf rfl) fun a hf => ?_
    refine s_ hf (r_move hf rfl) fun a hf => ?_
    obtain ⟨x56, hx57, hF⟩ := of_bind hF
    refine st_fn 16 hw hf rfl rfl (by decide) (r_fn en31 hf rfl) (laws_eqInt64SS_ok o15.ro o4.ro hx57) fun a v w ρ hf hw hE hN hΦ => ?_
    obtain rfl := hΦ
    replace o1 := o1.ext hE
    replace o4 := o4.ext hE
    replace o8 := o8.ext hE
    replace o14 := o14.ext hE
    replace o15 := o15.ext hE
    refine s_ hf (r_not hf rfl) fun a hf => ?_
    refine s_ hf (r_move hf rfl) fun a hf => ?_
    rcases of_ite hF with ⟨hb58, hF⟩ | ⟨hb58, hF⟩
    · refine st_no (b := true) hf rfl rfl rfl hb58 rfl (by decide) fun a hf => ?_
      refine st_no (b := true) hf rfl rfl rfl hb58 rfl (by decide) fun a hf => ?_
      refine st_no (b := true) hf rfl rfl rfl hb58 rfl (by decide) fun a hf => ?_
      refine s_ hf (r_pick (b := true) hf rfl hb58 rfl) fun a hf => ?_
      refine c_nil ⟨rfl, ?_⟩
      obtain rfl := Option.some.inj hF
      exact ⟨_, hw, hf.sub ⟨rfl, rfl, rfl, trivial⟩, o8⟩
    refine st_g (b := false) hf rfl rfl rfl hb58 rfl (by decide) (r_move hf rfl) fun a hf => ?_
    refine st_g (b := false) hf rfl rfl rfl hb58 rfl (by decide) (r_move hf rfl) fun a hf => ?_
    refine st_g (b := false) hf rfl rfl rfl hb58 rfl (by decide) (r_neq hf rfl rfl) fun a hf => ?_
    refine s_ hf (r_pick (b := false) hf rfl hb58 rfl) fun a hf => ?_
    refine c_nil ⟨rfl, ?_⟩
    obtain rfl := Option.some.inj hF
    exact ⟨_, hw, hf.sub ⟨rfl, rfl, rfl, trivial⟩, o8⟩
  rintro a w ⟨ρ, hw, hf, o8⟩
  have hF := hG54
  refine n_then ?_
  rcases of_ite hF with ⟨hb59, hF⟩ | ⟨hb59, hF⟩
  · refine c_ift hf rfl hb59 <| c_seq <| c_region ?_
    refine s_ hf (r_assign hf rfl) fun a hf => ?_
    refine c_nt <| c_retc ?_
    obtain rfl := Option.some.inj hF
    refine r_then <| c_ret hf (res_tmp Try.results8 hf rfl) ?_
    exact ⟨_, rfl, hw.below, rfl⟩
  refine c_iff hf rfl hb59 <| c_skip <| n_then <| c_seq <| c_region ?_
  refine s_ hf (r_assign hf rfl) fun a hf => ?_
  refine c_nt <| c_seq <| c_region ?_
  refine s_ hf (r_move hf rfl) fun a hf => ?_
  refine s_ hf (r_move hf rfl) fun a hf => ?_
  obtain ⟨x60, hx61, hF⟩ := of_bind hF
  refine st_fn 17 hw hf rfl rfl (by decide) (r_fn en33 hf rfl) (laws_heldInt64SS_ok o8.ro hx61) fun a v w ρ hf hw hE hN hΦ => ?_
  obtain rfl := hΦ
  replace o8 := o8.ext hE
  refine s_ hf (r_assign hf rfl) fun a hf => ?_
  refine c_nt <| c_seq <| c_seq <| c_region ?_
  refine s_ hf (r_move hf rfl) fun a hf => ?_
  refine s_ hf (r_lss hf rfl rfl) fun a hf => ?_
  refine c_nt ?_
  rcases of_ite hF with ⟨hb62, hF⟩ | ⟨hb62, hF⟩
  · refine c_ift hf rfl hb62 <| c_seq <| c_region ?_
    refine s_ hf (r_assign hf rfl) fun a hf => ?_
    refine c_nt <| c_retc ?_
    obtain rfl := Option.some.inj hF
    refine r_then <| c_ret hf (res_tmp Try.results8 hf rfl) ?_
    exact ⟨_, rfl, hw.below, rfl⟩
  refine c_iff hf rfl hb62 <| c_skip <| n_then <| c_seq <| c_seq <| c_region ?_
  refine s_ hf (r_move hf rfl) fun a hf => ?_
  refine s_ hf (r_move hf rfl) fun a hf => ?_
  refine s_ hf (r_neq hf rfl rfl) fun a hf => ?_
  refine c_nt ?_
  rcases of_ite hF with ⟨hb63, hF⟩ | ⟨hb63, hF⟩
  · refine c_ift hf rfl hb63 <| c_seq <| c_region ?_
    refine s_ hf (r_assign hf rfl) fun a hf => ?_
    refine c_nt <| c_retc ?_
    obtain rfl := Option.some.inj hF
    refine r_then <| c_ret hf (res_tmp Try.results8 hf rfl) ?_
    exact ⟨_, rfl, hw.below, rfl⟩
  refine c_iff hf rfl hb63 <| c_skip <| n_then <| c_seq <| c_region ?_
  refine s_ hf (r_assign hf rfl) fun a hf => ?_
  refine c_nt <| c_retc ?_
  obtain rfl := Option.some.inj hF
  refine c_ret hf (res_tmp Try.results8 hf rfl) ?_
  exact ⟨_, rfl, hw.below, rfl⟩
end Go.Proofs.YtB
