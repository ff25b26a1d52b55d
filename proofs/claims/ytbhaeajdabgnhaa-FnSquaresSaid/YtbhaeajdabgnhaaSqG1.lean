/- Functions of the program as plain functions, and that they compute these. Printed by gen.py. -/
import Derived.Test.YtbhaeajdabgnhaaSqT
set_option linter.unusedVariables false
set_option linter.unusedSimpArgs false
set_option maxRecDepth 4000
set_option maxHeartbeats 1000000
namespace Go.Proofs.YtB
open Go Go.RowKit Go.Proofs Go.Proofs.YtbhaeajdabgnhaaW.PrintWords
/-! f62 -/
noncomputable def impl_isPrime (a0 : Int) : Option Bool :=
  (if (decide (a0 = 2)) = true then (some true) else (if (decide (a0 = 3)) = true then (some true) else (some (decide (a0 = 5))))).bind fun (s2 : Bool) => some (s2)
theorem impl_isPrime_ok {w0 : World} {a0 : Int}   {r : Bool} (hF : impl_isPrime a0 = some r) :
    Calls Try.prog 62 [vI a0].toArray w0 fun e w => ∃ v, e = .returned v ∧ Below w0.heap.size w0 w ∧ .bool r = v := by
  refine calls_of (k := 13) Try.func62 rfl rfl (Nat.le_of_ble_eq_true rfl) fun a hf => ?_
  replace hf : Fr 13 a [(0, vI a0)] := hf
  refine c_start fun w ρ hw => ?_
  unfold impl_isPrime at hF
  refine c_seq <| c_region ?_
  refine s_ hf (r_assign hf rfl) fun a hf => ?_
  refine c_nt <| c_seq ?_
  obtain ⟨s2, hT1, hG1⟩ := of_bind hF
  clear hF
  refine c_meet (fun (s2 : Bool) a w => ∃ ρ, Wd w0 ρ w ∧ Fr 13 a [(2, .bool s2)]) s2 ?_ ?_
  · have hF := hT1
    refine c_region ?_
    refine s_ hf (r_move hf rfl) fun a hf => ?_
    refine s_ hf (r_eql hf rfl rfl) fun a hf => ?_
    refine s_ hf (r_move hf rfl) fun a hf => ?_
    rcases of_ite hF with ⟨hb3, hF⟩ | ⟨hb3, hF⟩
    · refine st_no (b := true) hf rfl rfl rfl hb3 rfl (by decide) fun a hf => ?_
      refine st_no (b := true) hf rfl rfl rfl hb3 rfl (by decide) fun a hf => ?_
      refine s_ hf (r_pick (b := true) hf rfl hb3 rfl) fun a hf => ?_
      refine s_ hf (r_move hf rfl) fun a hf => ?_
      refine st_no (b := true) hf rfl rfl rfl rfl rfl (by decide) fun a hf => ?_
      refine st_no (b := true) hf rfl rfl rfl rfl rfl (by decide) fun a hf => ?_
      refine s_ hf (r_pick (b := true) hf rfl rfl rfl) fun a hf => ?_
      refine s_ hf (r_assign hf rfl) fun a hf => ?_
      refine c_nil ⟨rfl, ?_⟩
      obtain rfl := Option.some.inj hF
      exact ⟨_, hw, hf.sub ⟨rfl, trivial⟩⟩
    refine st_g (b := false) hf rfl rfl rfl hb3 rfl (by decide) (r_move hf rfl) fun a hf => ?_
    refine st_g (b := false) hf rfl rfl rfl hb3 rfl (by decide) (r_eql hf rfl rfl) fun a hf => ?_
    refine s_ hf (r_pick (b := false) hf rfl hb3 rfl) fun a hf => ?_
    refine s_ hf (r_move hf rfl) fun a hf => ?_
    rcases of_ite hF with ⟨hb4, hF⟩ | ⟨hb4, hF⟩
    · refine st_no (b := true) hf rfl rfl rfl hb4 rfl (by decide) fun a hf => ?_
      refine st_no (b := true) hf rfl rfl rfl hb4 rfl (by decide) fun a hf => ?_
      refine s_ hf (r_pick (b := true) hf rfl hb4 rfl) fun a hf => ?_
      refine s_ hf (r_assign hf rfl) fun a hf => ?_
      refine c_nil ⟨rfl, ?_⟩
      obtain rfl := Option.some.inj hF
      exact ⟨_, hw, hf.sub ⟨rfl, trivial⟩⟩
    refine st_g (b := false) hf rfl rfl rfl hb4 rfl (by decide) (r_move hf rfl) fun a hf => ?_
    refine st_g (b := false) hf rfl rfl rfl hb4 rfl (by decide) (r_eql hf rfl rfl) fun a hf => ?_
    refine s_ hf (r_pick (b := false) hf rfl hb4 rfl) fun a hf => ?_
    refine s_ hf (r_assign hf rfl) fun a hf => ?_
    refine c_nil ⟨rfl, ?_⟩
    obtain rfl := Option.some.inj hF
    exact ⟨_, hw, hf.sub ⟨rfl, trivial⟩⟩
  rintro a w ⟨ρ, hw, hf⟩
  have hF := hG1
  refine n_then <| c_retc ?_
  obtain rfl := Option.some.inj hF
  refine c_ret hf (res_tmp Try.results62 hf rfl) ?_
  exact ⟨_, rfl, hw.below, rfl⟩
/-! f63 -/
noncomputable def impl_isSize_l1 (a0 : List Int) (s2 : Int) : Option (LR Int Bool) :=
  if (decide (s2 < (a0.length : Int))) = true then (if 0 ≤ s2 ∧ s2 < (a0.length : Int) then ((if (decide ((gl 0 a0 s2) < 1)) = true then (some true) else (some (decide (3 < (gl 0 a0 s2))))).bind fun (s7 : Bool) => if s7 = true then (some (.ret false)) else (some (.next (w64 (s2 + 1))))) else none) else (some (.stop s2))
noncomputable def impl_isSize (a0 : List Int) : Option Bool :=
  (iter (fun s => impl_isSize_l1 a0 s) 0).bind fun o => match o with | .stop s2 => (some (true)) | .ret r => some r | .next _ => none
theorem impl_isSize_ok {w0 : World} {a0 : List Int} {va0 : Value} (h0 : Ro (kf fI64) w0 va0 a0) {r : Bool} (hF : impl_isSize a0 = some r) :
    Calls Try.prog 63 [va0].toArray w0 fun e w => ∃ v, e = .returned v ∧ Below w0.heap.size w0 w ∧ .bool r = v := by
  refine calls_of (k := 18) Try.func63 rfl rfl (Nat.le_of_ble_eq_true rfl) fun a hf => ?_
  replace hf : Fr 18 a [(0, va0)] := hf
  refine c_start fun w ρ hw => ?_
  unfold impl_isSize at hF
  refine c_seq <| c_region ?_
  refine s_ hf (r_assign hf rfl) fun a hf => ?_
  refine c_nt <| c_seq <| c_seq <| c_region ?_
  refine s_ hf (r_move hf rfl) fun a hf => ?_
  refine s_ hf (r_len Try.underlying36 (h0.now hw) hf rfl) fun a hf => ?_
  refine s_ hf (r_move hf rfl) fun a hf => ?_
  refine c_nt ?_
  obtain ⟨ol1, ho1, hG1⟩ := of_bind hF
  clear hF
  refine c_block (c_loop (id := 0) (fun s => impl_isSize_l1 a0 s) (fun (s2 : Int) a w => ∃ ρ, Wd w0 ρ w ∧ Fr 18 a [(5, va0), (6, vI (a0.length : Int)), (7, vI s2)]) (fun (s2 : Int) a w => ∃ ρ, Wd w0 ρ w ∧ Fr 18 a []) ho1 ⟨_, hw, hf.sub ⟨rfl, rfl, rfl, trivial⟩⟩ ?_ ?_)
  · rintro s2 lr a w ⟨ρ, hw, hf⟩ hF
    replace hF : impl_isSize_l1 a0 s2 = some lr := hF
    unfold impl_isSize_l1 at hF
    refine c_seq <| c_region ?_
    refine s_ hf (r_lss hf rfl rfl) fun a hf => ?_
    refine c_nt <| c_seq ?_
    rcases of_ite hF with ⟨hb3, hF⟩ | ⟨hb3, hF⟩
    rotate_left
    · refine c_iff hf rfl hb3 <| c_exit <| x_then ?_
      obtain rfl := Option.some.inj hF
      exact Rnd.stops ⟨_, hw, hf.sub trivial⟩
    refine c_ift hf rfl hb3 <| c_skip <| n_then <| c_seq <| c_block <| c_seq <| c_region ?_
    obtain ⟨hc4, hF⟩ := of_guard hF
    obtain ⟨ad5, c5, he5, hl5⟩ := Ro.el fI64 h0 0 hc4.1 hc4.2
    refine s_ hf (r_idx Try.underlying36 sz2 hf rfl ⟨_, he5⟩ rfl hc4.1 hc4.2) fun a hf => ?_
    refine s_ hf (r_load_cell ty2 hf rfl (hl5.below hw.below)) fun a hf => ?_
    refine s_ hf (r_assign hf rfl) fun a hf => ?_
    refine c_nt <| c_seq ?_
    obtain ⟨s7, hT6, hG6⟩ := of_bind hF
    clear hF
    refine c_meet (fun (s7 : Bool) a w => ∃ ρ, Wd w0 ρ w ∧ Fr 18 a [(5, va0), (6, vI (a0.length : Int)), (7, vI s2), (16, .bool s7)]) s7 ?_ ?_
    · have hF := hT6
      refine c_region ?_
      refine s_ hf (r_move hf rfl) fun a hf => ?_
      refine s_ hf (r_lss hf rfl rfl) fun a hf => ?_
      refine s_ hf (r_move hf rfl) fun a hf => ?_
      rcases of_ite hF with ⟨hb8, hF⟩ | ⟨hb8, hF⟩
      · refine st_no (b := true) hf rfl rfl rfl hb8 rfl (by decide) fun a hf => ?_
        refine st_no (b := true) hf rfl rfl rfl hb8 rfl (by decide) fun a hf => ?_
        refine s_ hf (r_pick (b := true) hf rfl hb8 rfl) fun a hf => ?_
        refine c_nil ⟨rfl, ?_⟩
        obtain rfl := Option.some.inj hF
        exact ⟨_, hw, hf.sub ⟨rfl, rfl, rfl, rfl, trivial⟩⟩
      refine st_g (b := false) hf rfl rfl rfl hb8 rfl (by decide) (r_move hf rfl) fun a hf => ?_
      refine st_g (b := false) hf rfl rfl rfl hb8 rfl (by decide) (r_gtr hf rfl rfl) fun a hf => ?_
      refine s_ hf (r_pick (b := false) hf rfl hb8 rfl) fun a hf => ?_
      refine c_nil ⟨rfl, ?_⟩
      obtain rfl := Option.some.inj hF
      exact ⟨_, hw, hf.sub ⟨rfl, rfl, rfl, rfl, trivial⟩⟩
    rintro a w ⟨ρ, hw, hf⟩
    have hF := hG6
    refine n_then ?_
    rcases of_ite hF with ⟨hb9, hF⟩ | ⟨hb9, hF⟩
    rotate_left
    · refine c_iff hf rfl hb9 <| c_skip <| n_block <| n_then <| c_region ?_
      refine s_ hf (r_add hf rfl rfl) fun a hf => ?_
      refine s_ hf (r_move hf rfl) fun a hf => ?_
      refine c_nil ?_
      obtain rfl := Option.some.inj hF
      exact Rnd.goes ⟨_, hw, hf.sub ⟨rfl, rfl, rfl, trivial⟩⟩
    refine c_ift hf rfl hb9 <| c_seq <| c_region ?_
    refine s_ hf (r_assign hf rfl) fun a hf => ?_
    refine c_nt <| c_retc ?_
    obtain rfl := Option.some.inj hF
    refine r_block <| r_then ?_
    refine Rnd.rets fun ho => ?_
    subst ho
    have hF := hG1
    dsimp only at hF
    obtain rfl := Option.some.inj hF
    refine r_block <| r_then <| c_ret hf (res_tmp Try.results63 hf rfl) ?_
    exact ⟨_, rfl, hw.below, rfl⟩
  rintro s2 a w hs ⟨ρ, hw, hf⟩
  subst hs
  have hF := hG1
  dsimp only at hF
  refine x_block <| n_then <| c_seq <| c_region ?_
  refine s_ hf (r_assign hf rfl) fun a hf => ?_
  refine c_nt <| c_retc ?_
  obtain rfl := Option.some.inj hF
  refine c_ret hf (res_tmp Try.results63 hf rfl) ?_
  exact ⟨_, rfl, hw.below, rfl⟩
/-! f65 -/
noncomputable def spec_l01Prime (a0 : Int) : Option Bool :=
  (if (decide (a0 = 2)) = true then (some true) else (if (decide (a0 = 3)) = true then (some true) else (some (decide (a0 = 5))))).bind fun (s2 : Bool) => some (s2)
theorem spec_l01Prime_ok {w0 : World} {a0 : Int}   {r : Bool} (hF : spec_l01Prime a0 = some r) :
    Calls Try.prog 65 [vI a0].toArray w0 fun e w => ∃ v, e = .returned v ∧ Below w0.heap.size w0 w ∧ .bool r = v := by
  refine calls_of (k := 13) Try.func65 rfl rfl (Nat.le_of_ble_eq_true rfl) fun a hf => ?_
  replace hf : Fr 13 a [(0, vI a0)] := hf
  refine c_start fun w ρ hw => ?_
  unfold spec_l01Prime at hF
  refine c_seq <| c_region ?_
  refine s_ hf (r_assign hf rfl) fun a hf => ?_
  refine c_nt <| c_seq ?_
  obtain ⟨s2, hT1, hG1⟩ := of_bind hF
  clear hF
  refine c_meet (fun (s2 : Bool) a w => ∃ ρ, Wd w0 ρ w ∧ Fr 13 a [(2, .bool s2)]) s2 ?_ ?_
  · have hF := hT1
    refine c_region ?_
    refine s_ hf (r_move hf rfl) fun a hf => ?_
    refine s_ hf (r_eql hf rfl rfl) fun a hf => ?_
    refine s_ hf (r_move hf rfl) fun a hf => ?_
    rcases of_ite hF with ⟨hb3, hF⟩ | ⟨hb3, hF⟩
    · refine st_no (b := true) hf rfl rfl rfl hb3 rfl (by decide) fun a hf => ?_
      refine st_no (b := true) hf rfl rfl rfl hb3 rfl (by decide) fun a hf => ?_
      refine s_ hf (r_pick (b := true) hf rfl hb3 rfl) fun a hf => ?_
      refine s_ hf (r_move hf rfl) fun a hf => ?_
      refine st_no (b := true) hf rfl rfl rfl rfl rfl (by decide) fun a hf => ?_
      refine st_no (b := true) hf rfl rfl rfl rfl rfl (by decide) fun a hf => ?_
      refine s_ hf (r_pick (b := true) hf rfl rfl rfl) fun a hf => ?_
      refine s_ hf (r_assign hf rfl) fun a hf => ?_
      refine c_nil ⟨rfl, ?_⟩
      obtain rfl := Option.some.inj hF
      exact ⟨_, hw, hf.sub ⟨rfl, trivial⟩⟩
    refine st_g (b := false) hf rfl rfl rfl hb3 rfl (by decide) (r_move hf rfl) fun a hf => ?_
    refine st_g (b := false) hf rfl rfl rfl hb3 rfl (by decide) (r_eql hf rfl rfl) fun a hf => ?_
    refine s_ hf (r_pick (b := false) hf rfl hb3 rfl) fun a hf => ?_
    refine s_ hf (r_move hf rfl) fun a hf => ?_
    rcases of_ite hF with ⟨hb4, hF⟩ | ⟨hb4, hF⟩
    · refine st_no (b := true) hf rfl rfl rfl hb4 rfl (by decide) fun a hf => ?_
      refine st_no (b := true) hf rfl rfl rfl hb4 rfl (by decide) fun a hf => ?_
      refine s_ hf (r_pick (b := true) hf rfl hb4 rfl) fun a hf => ?_
      refine s_ hf (r_assign hf rfl) fun a hf => ?_
      refine c_nil ⟨rfl, ?_⟩
      obtain rfl := Option.some.inj hF
      exact ⟨_, hw, hf.sub ⟨rfl, trivial⟩⟩
    refine st_g (b := false) hf rfl rfl rfl hb4 rfl (by decide) (r_move hf rfl) fun a hf => ?_
    refine st_g (b := false) hf rfl rfl rfl hb4 rfl (by decide) (r_eql hf rfl rfl) fun a hf => ?_
    refine s_ hf (r_pick (b := false) hf rfl hb4 rfl) fun a hf => ?_
    refine s_ hf (r_assign hf rfl) fun a hf => ?_
    refine c_nil ⟨rfl, ?_⟩
    obtain rfl := Option.some.inj hF
    exact ⟨_, hw, hf.sub ⟨rfl, trivial⟩⟩
  rintro a w ⟨ρ, hw, hf⟩
  have hF := hG1
  refine n_then <| c_retc ?_
  obtain rfl := Option.some.inj hF
  refine c_ret hf (res_tmp Try.results65 hf rfl) ?_
  exact ⟨_, rfl, hw.below, rfl⟩
/-! f66 -/
noncomputable def spec_l01In (a0 : Int) (a1 : Int) (a2 : Int) : Option Bool :=
  (if (decide (a1 ≤ a0)) = true then (some (decide (a0 ≤ a2))) else (some false)).bind fun (s2 : Bool) => some (s2)
theorem spec_l01In_ok {w0 : World} {a0 : Int} {a1 : Int} {a2 : Int}   {r : Bool} (hF : spec_l01In a0 a1 a2 = some r) :
    Calls Try.prog 66 [vI a0, vI a1, vI a2].toArray w0 fun e w => ∃ v, e = .returned v ∧ Below w0.heap.size w0 w ∧ .bool r = v := by
  refine calls_of (k := 15) Try.func66 rfl rfl (Nat.le_of_ble_eq_true rfl) fun a hf => ?_
  replace hf : Fr 15 a [(0, vI a0), (1, vI a1), (2, vI a2)] := hf
  refine c_start fun w ρ hw => ?_
  unfold spec_l01In at hF
  refine c_seq <| c_region ?_
  refine s_ hf (r_assign hf rfl) fun a hf => ?_
  refine c_nt <| c_seq ?_
  obtain ⟨s2, hT1, hG1⟩ := of_bind hF
  clear hF
  refine c_meet (fun (s2 : Bool) a w => ∃ ρ, Wd w0 ρ w ∧ Fr 15 a [(6, .bool s2)]) s2 ?_ ?_
  · have hF := hT1
    refine c_region ?_
    refine s_ hf (r_move hf rfl) fun a hf => ?_
    refine s_ hf (r_move hf rfl) fun a hf => ?_
    refine s_ hf (r_geq hf rfl rfl) fun a hf => ?_
    refine s_ hf (r_move hf rfl) fun a hf => ?_
    rcases of_ite hF with ⟨hb3, hF⟩ | ⟨hb3, hF⟩
    rotate_left
    · refine st_no (b := false) hf rfl rfl rfl hb3 rfl (by decide) fun a hf => ?_
      refine st_no (b := false) hf rfl rfl rfl hb3 rfl (by decide) fun a hf => ?_
      refine st_no (b := false) hf rfl rfl rfl hb3 rfl (by decide) fun a hf => ?_
      refine s_ hf (r_pick (b := false) hf rfl hb3 rfl) fun a hf => ?_
      refine s_ hf (r_assign hf rfl) fun a hf => ?_
      refine c_nil ⟨rfl, ?_⟩
      obtain rfl := Option.some.inj hF
      exact ⟨_, hw, hf.sub ⟨rfl, trivial⟩⟩
    refine st_g (b := true) hf rfl rfl rfl hb3 rfl (by decide) (r_move hf rfl) fun a hf => ?_
    refine st_g (b := true) hf rfl rfl rfl hb3 rfl (by decide) (r_move hf rfl) fun a hf => ?_
    refine st_g (b := true) hf rfl rfl rfl hb3 rfl (by decide) (r_leq hf rfl rfl) fun a hf => ?_
    refine s_ hf (r_pick (b := true) hf rfl hb3 rfl) fun a hf => ?_
    refine s_ hf (r_assign hf rfl) fun a hf => ?_
    refine c_nil ⟨rfl, ?_⟩
    obtain rfl := Option.some.inj hF
    exact ⟨_, hw, hf.sub ⟨rfl, trivial⟩⟩
  rintro a w ⟨ρ, hw, hf⟩
  have hF := hG1
  refine n_then <| c_retc ?_
  obtain rfl := Option.some.inj hF
  refine c_ret hf (res_tmp Try.results66 hf rfl) ?_
  exact ⟨_, rfl, hw.below, rfl⟩
/-! f114 -/
noncomputable def spec_l01Mod (a0 : Int) (a1 : Int) : Option Int :=
  if a0 ≠ 0 then (some ((w64 ((a1.tmod a0) + a0)).tmod a0)) else none
theorem spec_l01Mod_ok {w0 : World} {a0 : Int} {a1 : Int}   {r : Int} (hF : spec_l01Mod a0 a1 = some r) :
    Calls Try.prog 114 [vI a0, vI a1].toArray w0 fun e w => ∃ v, e = .returned v ∧ Below w0.heap.size w0 w ∧ .int .i64 r = v := by
  refine calls_of (k := 12) Try.func114 rfl rfl (Nat.le_of_ble_eq_true rfl) fun a hf => ?_
  replace hf : Fr 12 a [(0, vI a0), (1, vI a1)] := hf
  refine c_start fun w ρ hw => ?_
  unfold spec_l01Mod at hF
  refine c_seq <| c_region ?_
  refine s_ hf (r_assign hf rfl) fun a hf => ?_
  refine c_nt <| c_seq <| c_region ?_
  refine s_ hf (r_move hf rfl) fun a hf => ?_
  refine s_ hf (r_move hf rfl) fun a hf => ?_
  obtain ⟨hc1, hF⟩ := of_guard hF
  refine s_ hf (r_rem hf rfl rfl hc1) fun a hf => ?_
  refine s_ hf (r_move hf rfl) fun a hf => ?_
  refine s_ hf (r_add hf rfl rfl) fun a hf => ?_
  refine s_ hf (r_move hf rfl) fun a hf => ?_
  refine s_ hf (r_rem hf rfl rfl hc1) fun a hf => ?_
  refine s_ hf (r_assign hf rfl) fun a hf => ?_
  refine c_nt <| c_retc ?_
  obtain rfl := Option.some.inj hF
  refine c_ret hf (res_tmp Try.results114 hf rfl) ?_
  exact ⟨_, rfl, hw.below, rfl⟩
/-! f110 -/
noncomputable def impl_inverse_l1 (a0 : Int) (a1 : Int) (s2 : Int) : Option (LR Int Int) :=
  if a0 ≠ 0 then (if (decide (((w64 (s2 * a1)).tmod a0) = 1)) = true then (some (.ret s2)) else (some (.next (w64 (s2 + 1))))) else none
noncomputable def impl_inverse (a0 : Int) (a1 : Int) : Option Int :=
  (iter (fun s => impl_inverse_l1 a0 a1 s) 1).bind fun o => match o with | .stop _ => (none) | .ret r => some r | .next _ => none
theorem impl_inverse_ok {w0 : World} {a0 : Int} {a1 : Int}   {r : Int} (hF : impl_inverse a0 a1 = some r) :
    Calls Try.prog 110 [vI a0, vI a1].toArray w0 fun e w => ∃ v, e = .returned v ∧ Below w0.heap.size w0 w ∧ .int .i64 r = v := by
  refine calls_of (k := 15) Try.func110 rfl rfl (Nat.le_of_ble_eq_true rfl) fun a hf => ?_
  replace hf : Fr 15 a [(0, vI a0), (1, vI a1)] := hf
  refine c_start fun w ρ hw => ?_
  unfold impl_inverse at hF
  refine c_seq <| c_region ?_
  refine s_ hf (r_assign hf rfl) fun a hf => ?_
  refine c_nt <| c_seq <| c_region ?_
  refine s_ hf (r_assign hf rfl) fun a hf => ?_
  refine c_nt ?_
  obtain ⟨ol1, ho1, hG1⟩ := of_bind hF
  clear hF
  refine c_block (c_loop (id := 0) (fun s => impl_inverse_l1 a0 a1 s) (fun (s2 : Int) a w => ∃ ρ, Wd w0 ρ w ∧ Fr 15 a [(0, vI a0), (1, vI a1), (5, vI s2)]) (fun (s2 : Int) a w => ∃ ρ, Wd w0 ρ w ∧ Fr 15 a []) ho1 ⟨_, hw, hf.sub ⟨rfl, rfl, rfl, trivial⟩⟩ ?_ ?_)
  · rintro s2 lr a w ⟨ρ, hw, hf⟩ hF
    replace hF : impl_inverse_l1 a0 a1 s2 = some lr := hF
    unfold impl_inverse_l1 at hF
    refine c_seq <| c_block <| c_seq <| c_region ?_
    refine s_ hf (r_move hf rfl) fun a hf => ?_
    refine s_ hf (r_move hf rfl) fun a hf => ?_
    refine s_ hf (r_mul hf rfl rfl) fun a hf => ?_
    refine s_ hf (r_move hf rfl) fun a hf => ?_
    obtain ⟨hc3, hF⟩ := of_guard hF
    refine s_ hf (r_rem hf rfl rfl hc3) fun a hf => ?_
    refine s_ hf (r_eql hf rfl rfl) fun a hf => ?_
    refine c_nt ?_
    rcases of_ite hF with ⟨hb4, hF⟩ | ⟨hb4, hF⟩
    rotate_left
    · refine c_iff hf rfl hb4 <| c_skip <| n_block <| n_then <| c_region ?_
      refine s_ hf (r_move hf rfl) fun a hf => ?_
      refine s_ hf (r_add hf rfl rfl) fun a hf => ?_
      refine s_ hf (r_assign hf rfl) fun a hf => ?_
      refine c_nil ?_
      obtain rfl := Option.some.inj hF
      exact Rnd.goes ⟨_, hw, hf.sub ⟨rfl, rfl, rfl, trivial⟩⟩
    refine c_ift hf rfl hb4 <| c_seq <| c_region ?_
    refine s_ hf (r_move hf rfl) fun a hf => ?_
    refine s_ hf (r_assign hf rfl) fun a hf => ?_
    refine c_nt <| c_retc ?_
    obtain rfl := Option.some.inj hF
    refine r_block <| r_then ?_
    refine Rnd.rets fun ho => ?_
    subst ho
    have hF := hG1
    dsimp only at hF
    obtain rfl := Option.some.inj hF
    refine r_block <| c_ret hf (res_tmp Try.results110 hf rfl) ?_
    exact ⟨_, rfl, hw.below, rfl⟩
  rintro s a w hs _
  subst hs
  cases hG1
/-! f113 -/
noncomputable def spec_l01Inverse_l1 (a0 : Int) (a1 : Int) (s2 : Int) : Option (LR Int Int) :=
  if (decide (s2 < a0)) = true then ((spec_l01Mod a0 a1).bind fun x4 => if a0 ≠ 0 then (if (decide (((w64 (s2 * x4)).tmod a0) = 1)) = true then (some (.ret s2)) else (some (.next (w64 (s2 + 1))))) else none) else (some (.stop s2))
noncomputable def spec_l01Inverse (a0 : Int) (a1 : Int) : Option Int :=
  (iter (fun s => spec_l01Inverse_l1 a0 a1 s) 1).bind fun o => match o with | .stop s2 => (some (0)) | .ret r => some r | .next _ => none
theorem spec_l01Inverse_ok {w0 : World} {a0 : Int} {a1 : Int}   {r : Int} (hF : spec_l01Inverse a0 a1 = some r) :
    Calls Try.prog 113 [vI a0, vI a1].toArray w0 fun e w => ∃ v, e = .returned v ∧ Below w0.heap.size w0 w ∧ .int .i64 r = v := by
  refine calls_of (k := 20) Try.func113 rfl rfl (Nat.le_of_ble_eq_true rfl) fun a hf => ?_
  replace hf : Fr 20 a [(0, vI a0), (1, vI a1)] := hf
  refine c_start fun w ρ hw => ?_
  unfold spec_l01Inverse at hF
  refine c_seq <| c_region ?_
  refine s_ hf (r_assign hf rfl) fun a hf => ?_
  refine c_nt <| c_seq <| c_seq <| c_region ?_
  refine s_ hf (r_assign hf rfl) fun a hf => ?_
  refine c_nt ?_
  obtain ⟨ol1, ho1, hG1⟩ := of_bind hF
  clear hF
  refine c_block (c_loop (id := 0) (fun s => spec_l01Inverse_l1 a0 a1 s) (fun (s2 : Int) a w => ∃ ρ, Wd w0 ρ w ∧ Fr 20 a [(0, vI a0), (1, vI a1), (5, vI s2)]) (fun (s2 : Int) a w => ∃ ρ, Wd w0 ρ w ∧ Fr 20 a []) ho1 ⟨_, hw, hf.sub ⟨rfl, rfl, rfl, trivial⟩⟩ ?_ ?_)
  · rintro s2 lr a w ⟨ρ, hw, hf⟩ hF
    replace hF : spec_l01Inverse_l1 a0 a1 s2 = some lr := hF
    unfold spec_l01Inverse_l1 at hF
    refine c_seq <| c_seq <| c_region ?_
    refine s_ hf (r_move hf rfl) fun a hf => ?_
    refine s_ hf (r_move hf rfl) fun a hf => ?_
    refine s_ hf (r_lss hf rfl rfl) fun a hf => ?_
    refine c_nt ?_
    rcases of_ite hF with ⟨hb3, hF⟩ | ⟨hb3, hF⟩
    rotate_left
    · refine c_iff hf rfl hb3 <| c_exit <| x_then ?_
      obtain rfl := Option.some.inj hF
      exact Rnd.stops ⟨_, hw, hf.sub trivial⟩
    refine c_ift hf rfl hb3 <| c_skip <| n_then <| c_seq <| c_block <| c_seq <| c_region ?_
    refine s_ hf (r_move hf rfl) fun a hf => ?_
    refine s_ hf (r_move hf rfl) fun a hf => ?_
    refine s_ hf (r_move hf rfl) fun a hf => ?_
    obtain ⟨x4, hx5, hF⟩ := of_bind hF
    refine st_fn 1 hw hf rfl rfl (by decide) (r_fn en114 hf rfl) (spec_l01Mod_ok  hx5) fun a v w ρ hf hw hE hN hΦ => ?_
    obtain rfl := hΦ
    refine s_ hf (r_mul hf rfl rfl) fun a hf => ?_
    refine s_ hf (r_move hf rfl) fun a hf => ?_
    obtain ⟨hc6, hF⟩ := of_guard hF
    refine s_ hf (r_rem hf rfl rfl hc6) fun a hf => ?_
    refine s_ hf (r_eql hf rfl rfl) fun a hf => ?_
    refine c_nt ?_
    rcases of_ite hF with ⟨hb7, hF⟩ | ⟨hb7, hF⟩
    rotate_left
    · refine c_iff hf rfl hb7 <| c_skip <| n_block <| n_then <| c_region ?_
      refine s_ hf (r_move hf rfl) fun a hf => ?_
      refine s_ hf (r_add hf rfl rfl) fun a hf => ?_
      refine s_ hf (r_assign hf rfl) fun a hf => ?_
      refine c_nil ?_
      obtain rfl := Option.some.inj hF
      exact Rnd.goes ⟨_, hw, hf.sub ⟨rfl, rfl, rfl, trivial⟩⟩
    refine c_ift hf rfl hb7 <| c_seq <| c_region ?_
    refine s_ hf (r_move hf rfl) fun a hf => ?_
    refine s_ hf (r_assign hf rfl) fun a hf => ?_
    refine c_nt <| c_retc ?_
    obtain rfl := Option.some.inj hF
    refine r_block <| r_then ?_
    refine Rnd.rets fun ho => ?_
    subst ho
    have hF := hG1
    dsimp only at hF
    obtain rfl := Option.some.inj hF
    refine r_block <| r_then <| c_ret hf (res_tmp Try.results113 hf rfl) ?_
    exact ⟨_, rfl, hw.below, rfl⟩
  rintro s2 a w hs ⟨ρ, hw, hf⟩
  subst hs
  have hF := hG1
  dsimp only at hF
  refine x_block <| n_then <| c_seq <| c_region ?_
  refine s_ hf (r_assign hf rfl) fun a hf => ?_
  refine c_nt <| c_retc ?_
  obtain rfl := Option.some.inj hF
  refine c_ret hf (res_tmp Try.results113 hf rfl) ?_
  exact ⟨_, rfl, hw.below, rfl⟩
/-! f111 -/
noncomputable def slices_Clone_111 (a0 : List Int) : Option (List Int) :=
  if (([] : List Int).length + a0.length) * 8 ≤ 140737488355328 then (some ((([] : List Int) ++ a0))) else none
theorem slices_Clone_111_ok {w0 : World} {a0 : List Int} {va0 : Value} (h0 : Ro (kf fI64) w0 va0 a0) {r : List Int} (hF : slices_Clone_111 a0 = some r) :
    Calls Try.prog 111 [va0].toArray w0 fun e w => ∃ v, e = .returned v ∧ Below w0.heap.size w0 w ∧ ∃ u0, u0 = v ∧ Fresh (kf fI64) 2 w0 w u0 r := by
  refine calls_of (k := 8) Try.func111 rfl rfl (Nat.le_of_ble_eq_true rfl) fun a hf => ?_
  replace hf : Fr 8 a [(0, va0)] := hf
  refine c_start fun w ρ hw => ?_
  unfold slices_Clone_111 at hF
  refine c_seq <| c_region ?_
  have o1 : Ow (kf fI64) 2 ρ w w0.heap.size 1 (.slice none 0 0) [] := Ow.nil _ _ _ _ _ _
  refine s_ hf (r_assign hf rfl) fun a hf => ?_
  refine c_nt <| c_seq <| c_seq <| c_region ?_
  refine s_ hf (r_move hf rfl) fun a hf => ?_
  rcases Ro.nil_or (h0.now hw) with hn1 | hn1
  · replace hF := (show (some (([] : List Int))) = (if (([] : List Int).length + a0.length) * 8 ≤ 140737488355328 then (some ((([] : List Int) ++ a0))) else none) from by simp [hn1.2]).trans hF
    refine s_ hf (r_isnil hf rfl hn1.1 rfl Try.underlying36) fun a hf => ?_
    refine c_nt <| c_true hf rfl <| c_seq <| c_region ?_
    have o2 : Ow (kf fI64) 2 ρ w w0.heap.size 2 (.slice none 0 0) [] := Ow.nil _ _ _ _ _ _
    refine s_ hf (r_assign hf rfl) fun a hf => ?_
    refine c_nt <| c_retc ?_
    obtain rfl := Option.some.inj hF
    refine r_then <| c_ret hf (res_tmp Try.results111 hf rfl) ?_
    exact ⟨_, rfl, hw.below, ⟨_, rfl, o2.out⟩⟩
  · refine s_ hf (r_nonil hf rfl hn1 rfl Try.underlying36) fun a hf => ?_
    refine c_nt <| c_false hf rfl <| c_skip <| n_then <| c_seq <| c_region ?_
    refine sx_ hf (r_lit (d := fI64) (xs := ([] : List Int)) (vs := []) 3 Try.underlying36 el2 (Nat.le_of_ble_eq_true rfl) (Nat.le_of_ble_eq_true rfl) hw hf rfl rfl rfl) fun a v3 w hf hΦ => ?_
    obtain ⟨ρ, hw, hE, o3⟩ := hΦ
    replace o1 := o1.ext hE
    refine s_ hf (r_move hf rfl) fun a hf => ?_
    obtain ⟨hc2, hF⟩ := of_guard hF
    refine sx_ hf (r_append Try.underlying36 el2 hw (by decide) o3 (h0.now hw) hc2 hf rfl rfl) fun a va3 w hf hΦ => ?_
    obtain ⟨ρ, hw, hA, o3⟩ := hΦ
    replace o1 := o1.adv hA (by decide)
    refine s_ hf (r_assign hf rfl) fun a hf => ?_
    refine c_nt <| c_retc ?_
    obtain rfl := Option.some.inj hF
    refine c_ret hf (res_tmp Try.results111 hf rfl) ?_
    exact ⟨_, rfl, hw.below, ⟨_, rfl, o3.out⟩⟩
/-! f149 -/
noncomputable def impl_rank_1 (a0 : List Int) (c1 : Int) : Option Bool :=
  if 0 ≤ c1 ∧ c1 < (a0.length : Int) then (some (decide ((gl 0 a0 c1) ≠ 0))) else none
theorem impl_rank_1_ok {w0 : World} {a0 : List Int} {c1 : Int} {va0 : Value} {gc1 : Nat} (h0 : Ro (kf fI64) w0 va0 a0) (hc1 : Cl w0 ⟨gc1, 0, none⟩ 0 [vI c1]) {r : Bool} (hF : impl_rank_1 a0 c1 = some r) :
    Calls Try.prog 149 [va0, .pointer (some ((⟨gc1, 0, none⟩ : Addr).add 0))].toArray w0 fun e w => ∃ v, e = .returned v ∧ Below w0.heap.size w0 w ∧ .bool r = v := by
  refine calls_of (k := 9) Try.func149 rfl rfl (Nat.le_of_ble_eq_true rfl) fun a hf => ?_
  replace hf : Fr 9 a [(0, va0), (1, .pointer (some ((⟨gc1, 0, none⟩ : Addr).add 0)))] := hf
  refine c_start fun w ρ hw => ?_
  unfold impl_rank_1 at hF
  refine c_seq <| c_region ?_
  refine s_ hf (r_assign hf rfl) fun a hf => ?_
  refine c_nt <| c_seq <| c_region ?_
  refine s_ hf (r_move hf rfl) fun a hf => ?_
  refine s_ hf (r_load_cell ty3 hf rfl (hc1.below hw.below)) fun a hf => ?_
  obtain ⟨hc1, hF⟩ := of_guard hF
  obtain ⟨ad2, c2, he2, hl2⟩ := Ro.el fI64 h0 0 hc1.1 hc1.2
  refine s_ hf (r_idx Try.underlying36 sz2 hf rfl ⟨_, he2⟩ rfl hc1.1 hc1.2) fun a hf => ?_
  refine s_ hf (r_load_cell ty2 hf rfl (hl2.below hw.below)) fun a hf => ?_
  refine s_ hf (r_neq hf rfl rfl) fun a hf => ?_
  refine s_ hf (r_assign hf rfl) fun a hf => ?_
  refine c_nt <| c_retc ?_
  obtain rfl := Option.some.inj hF
  refine c_ret hf (res_tmp Try.results149 hf rfl) ?_
  exact ⟨_, rfl, hw.below, rfl⟩
/-! f108s149 -/
noncomputable def slices_IndexFunc_108_f149_l1 (a0 : List (List Int)) (c1_0 : Int) (s2 : Int) : Option (LR Int Int) :=
  if (decide (s2 < (a0.length : Int))) = true then (if 0 ≤ s2 ∧ s2 < (a0.length : Int) then ((impl_rank_1 (gl [] a0 s2) c1_0).bind fun x6 => if x6 = true then (some (.ret s2)) else (some (.next (w64 (s2 + 1))))) else none) else (some (.stop s2))
noncomputable def slices_IndexFunc_108_f149 (a0 : List (List Int)) (c1_0 : Int) : Option Int :=
  (iter (fun s => slices_IndexFunc_108_f149_l1 a0 c1_0 s) 0).bind fun o => match o with | .stop s2 => (some ((-1))) | .ret r => some r | .next _ => none
theorem slices_IndexFunc_108_f149_ok {w0 : World} {a0 : List (List Int)} {c1_0 : Int} {va0 : Value} {gc1_0 : Nat} (h0 : Ro (Kd.slice 2 (kf fI64)) w0 va0 a0) (hc1_0 : Cl w0 ⟨gc1_0, 0, none⟩ 0 [vI c1_0]) {r : Int} (hF : slices_IndexFunc_108_f149 a0 c1_0 = some r) :
    Calls Try.prog 108 [va0, .func (.func 149) #[] #[.pointer (some ((⟨gc1_0, 0, none⟩ : Addr).add 0))]].toArray w0 fun e w => ∃ v, e = .returned v ∧ Below w0.heap.size w0 w ∧ .int .i64 r = v := by
  refine calls_of (k := 19) Try.func108 rfl rfl (Nat.le_of_ble_eq_true rfl) fun a hf => ?_
  replace hf : Fr 19 a [(0, va0), (1, .func (.func 149) #[] #[.pointer (some ((⟨gc1_0, 0, none⟩ : Addr).add 0))])] := hf
  refine c_start fun w ρ hw => ?_
  unfold slices_IndexFunc_108_f149 at hF
  refine c_seq <| c_region ?_
  refine s_ hf (r_assign hf rfl) fun a hf => ?_
  refine c_nt <| c_seq <| c_seq <| c_region ?_
  refine s_ hf (r_move hf rfl) fun a hf => ?_
  refine s_ hf (r_len Try.underlying24 (h0.now hw) hf rfl) fun a hf => ?_
  refine s_ hf (r_move hf rfl) fun a hf => ?_
  refine c_nt ?_
  obtain ⟨ol1, ho1, hG1⟩ := of_bind hF
  clear hF
  refine c_block (c_loop (id := 0) (fun s => slices_IndexFunc_108_f149_l1 a0 c1_0 s) (fun (s2 : Int) a w => ∃ ρ, Wd w0 ρ w ∧ Fr 19 a [(0, va0), (1, .func (.func 149) #[] #[.pointer (some ((⟨gc1_0, 0, none⟩ : Addr).add 0))]), (7, vI (a0.length : Int)), (8, vI s2)]) (fun (s2 : Int) a w => ∃ ρ, Wd w0 ρ w ∧ Fr 19 a []) ho1 ⟨_, hw, hf.sub ⟨rfl, rfl, rfl, rfl, trivial⟩⟩ ?_ ?_)
  · rintro s2 lr a w ⟨ρ, hw, hf⟩ hF
    replace hF : slices_IndexFunc_108_f149_l1 a0 c1_0 s2 = some lr := hF
    unfold slices_IndexFunc_108_f149_l1 at hF
    refine c_seq <| c_region ?_
    refine s_ hf (r_lss hf rfl rfl) fun a hf => ?_
    refine c_nt <| c_seq ?_
    rcases of_ite hF with ⟨hb3, hF⟩ | ⟨hb3, hF⟩
    rotate_left
    · refine c_iff hf rfl hb3 <| c_exit <| x_then ?_
      obtain rfl := Option.some.inj hF
      exact Rnd.stops ⟨_, hw, hf.sub trivial⟩
    refine c_ift hf rfl hb3 <| c_skip <| n_then <| c_seq <| c_block <| c_seq <| c_region ?_
    refine s_ hf (r_move hf rfl) fun a hf => ?_
    refine s_ hf (r_assign hf rfl) fun a hf => ?_
    refine c_nt <| c_seq <| c_region ?_
    refine s_ hf (r_move hf rfl) fun a hf => ?_
    refine s_ hf (r_move hf rfl) fun a hf => ?_
    refine s_ hf (r_move hf rfl) fun a hf => ?_
    obtain ⟨hc4, hF⟩ := of_guard hF
    obtain ⟨ad5, c5, u5, he5, hl5, ho5⟩ := Ro.el_row h0 hc4.1 hc4.2
    refine s_ hf (r_idx Try.underlying24 sz36 hf rfl ⟨_, he5⟩ rfl hc4.1 hc4.2) fun a hf => ?_
    refine s_ hf (r_load_cell ty36 hf rfl (hl5.below hw.below)) fun a hf => ?_
    obtain ⟨x6, hx7, hF⟩ := of_bind hF
    refine st_fn 1 hw hf rfl rfl (by decide) (r_fnc en149 hf rfl rfl) (impl_rank_1_ok (ho5.now hw) (hc1_0.below hw.below) hx7) fun a v w ρ hf hw hE hN hΦ => ?_
    obtain rfl := hΦ
    refine c_nt ?_
    rcases of_ite hF with ⟨hb8, hF⟩ | ⟨hb8, hF⟩
    rotate_left
    · refine c_iff hf rfl hb8 <| c_skip <| n_block <| n_then <| c_region ?_
      refine s_ hf (r_add hf rfl rfl) fun a hf => ?_
      refine s_ hf (r_move hf rfl) fun a hf => ?_
      refine c_nil ?_
      obtain rfl := Option.some.inj hF
      exact Rnd.goes ⟨_, hw, hf.sub ⟨rfl, rfl, rfl, rfl, trivial⟩⟩
    refine c_ift hf rfl hb8 <| c_seq <| c_region ?_
    refine s_ hf (r_move hf rfl) fun a hf => ?_
    refine s_ hf (r_assign hf rfl) fun a hf => ?_
    refine c_nt <| c_retc ?_
    obtain rfl := Option.some.inj hF
    refine r_block <| r_then ?_
    refine Rnd.rets fun ho => ?_
    subst ho
    have hF := hG1
    dsimp only at hF
    obtain rfl := Option.some.inj hF
    refine r_block <| r_then <| c_ret hf (res_tmp Try.results108 hf rfl) ?_
    exact ⟨_, rfl, hw.below, rfl⟩
  rintro s2 a w hs ⟨ρ, hw, hf⟩
  subst hs
  have hF := hG1
  dsimp only at hF
  refine x_block <| n_then <| c_seq <| c_region ?_
  refine s_ hf (r_assign hf rfl) fun a hf => ?_
  refine c_nt <| c_retc ?_
  obtain rfl := Option.some.inj hF
  refine c_ret hf (res_tmp Try.results108 hf rfl) ?_
  exact ⟨_, rfl, hw.below, rfl⟩
/-! f106 -/
noncomputable def impl_rank_l1 (a1 : List (List Int)) (s2 : Int) (s3 : List Nat) (s4 : List (List Int)) : Option (LR (Int × (List Nat) × (List (List Int))) Int) :=
  if (decide (s2 < (a1.length : Int))) = true then (if 0 ≤ s2 ∧ s2 < (a1.length : Int) then ((slices_Clone_111 (gl [] a1 s2)).bind fun x10 => if (s3.length + 1) * 24 ≤ 140737488355328 then (some (.next (w64 (s2 + 1), (s3 ++ [s4.length]), (s4 ++ [x10])))) else none) else none) else (some (.stop (s2, s3, s4)))
noncomputable def impl_rank_l56 (a0 : Int) (s18 : Int) (s19 : List Nat) (s22 : Int) (x30 : Int) (x44 : Int) (s47 : Int) (s48 : List (List Int)) (s57 : Int) (s58 : List (List Int)) : Option (LR (Int × (List (List Int))) Int) :=
  if (decide (s57 < ((s48.getD (gl 0 ((s19.set s18.toNat (gl 0 s19 (w64 (s18 + x30)))).set (w64 (s18 + x30)).toNat (gl 0 s19 s18)) s47) []).length : Int))) = true then (if 0 ≤ s57 ∧ s57 < ((s58.getD (gl 0 ((s19.set s18.toNat (gl 0 s19 (w64 (s18 + x30)))).set (w64 (s18 + x30)).toNat (gl 0 s19 s18)) s47) []).length : Int) then (if 0 ≤ s57 ∧ s57 < ((s58.getD (gl 0 ((s19.set s18.toNat (gl 0 s19 (w64 (s18 + x30)))).set (w64 (s18 + x30)).toNat (gl 0 s19 s18)) s18) []).length : Int) then (some (.next (w64 (s57 + 1), (s58.set (gl 0 ((s19.set s18.toNat (gl 0 s19 (w64 (s18 + x30)))).set (w64 (s18 + x30)).toNat (gl 0 s19 s18)) s47) ((s58.getD (gl 0 ((s19.set s18.toNat (gl 0 s19 (w64 (s18 + x30)))).set (w64 (s18 + x30)).toNat (gl 0 s19 s18)) s47) []).set s57.toNat ((w64 (((w64 ((gl 0 (s58.getD (gl 0 ((s19.set s18.toNat (gl 0 s19 (w64 (s18 + x30)))).set (w64 (s18 + x30)).toNat (gl 0 s19 s18)) s47) []) s57) - (w64 (((w64 ((gl 0 (s48.getD (gl 0 ((s19.set s18.toNat (gl 0 s19 (w64 (s18 + x30)))).set (w64 (s18 + x30)).toNat (gl 0 s19 s18)) s47) []) s22) * x44)).tmod a0) * (gl 0 (s58.getD (gl 0 ((s19.set s18.toNat (gl 0 s19 (w64 (s18 + x30)))).set (w64 (s18 + x30)).toNat (gl 0 s19 s18)) s18) []) s57))))).tmod a0) + a0)).tmod a0)))))) else none) else none) else (some (.stop (s57, s58)))
noncomputable def impl_rank_l46 (a0 : Int) (s18 : Int) (s19 : List Nat) (s22 : Int) (x30 : Int) (x44 : Int) (s47 : Int) (s48 : List (List Int)) : Option (LR (Int × (List (List Int))) Int) :=
  if (decide (s47 < (((s19.set s18.toNat (gl 0 s19 (w64 (s18 + x30)))).set (w64 (s18 + x30)).toNat (gl 0 s19 s18)).length : Int))) = true then (if 0 ≤ s47 ∧ s47 < (((s19.set s18.toNat (gl 0 s19 (w64 (s18 + x30)))).set (w64 (s18 + x30)).toNat (gl 0 s19 s18)).length : Int) then (if 0 ≤ s22 ∧ s22 < ((s48.getD (gl 0 ((s19.set s18.toNat (gl 0 s19 (w64 (s18 + x30)))).set (w64 (s18 + x30)).toNat (gl 0 s19 s18)) s47) []).length : Int) then (if a0 ≠ 0 then ((iter (fun s => impl_rank_l56 a0 s18 s19 s22 x30 x44 s47 s48 s.1 s.2) (0, s48)).bind fun o => match o with | .stop (s57, s58) => (some (.next (w64 (s47 + 1), s58))) | .ret r => some (.ret r) | .next _ => none) else none) else none) else none) else (some (.stop (s47, s48)))
noncomputable def impl_rank_l17 (a0 : Int) (s18 : Int) (s19 : List Nat) (s20 : List (List Int)) (s22 : Int) : Option (LR (Int × (List Nat) × (List (List Int)) × Int) Int) :=
  (if (decide (s18 < (s19.length : Int))) = true then (if 0 ≤ (0 : Int) ∧ (0 : Int) < (s19.length : Int) then (some (decide (s22 < ((s20.getD (gl 0 s19 (0 : Int)) []).length : Int)))) else none) else (some false)).bind fun (s24 : Bool) => if s24 = true then (if 0 ≤ s18 ∧ s18 ≤ ((gi s19 s20).length : Int) then ((slices_IndexFunc_108_f149 (((gi s19 s20).take ((gi s19 s20).length : Int).toNat).drop s18.toNat) s22).bind fun x30 => if (decide (x30 < 0)) = true then (some (.next (s18, s19, s20, w64 (s22 + 1)))) else (if 0 ≤ w64 (s18 + x30) ∧ w64 (s18 + x30) < (s19.length : Int) then (if 0 ≤ s18 ∧ s18 < (s19.length : Int) then (if 0 ≤ w64 (s18 + x30) ∧ w64 (s18 + x30) < ((s19.set s18.toNat (gl 0 s19 (w64 (s18 + x30)))).length : Int) then (if 0 ≤ s18 ∧ s18 < (((s19.set s18.toNat (gl 0 s19 (w64 (s18 + x30)))).set (w64 (s18 + x30)).toNat (gl 0 s19 s18)).length : Int) then (if 0 ≤ s22 ∧ s22 < ((s20.getD (gl 0 ((s19.set s18.toNat (gl 0 s19 (w64 (s18 + x30)))).set (w64 (s18 + x30)).toNat (gl 0 s19 s18)) s18) []).length : Int) then ((impl_inverse a0 (gl 0 (s20.getD (gl 0 ((s19.set s18.toNat (gl 0 s19 (w64 (s18 + x30)))).set (w64 (s18 + x30)).toNat (gl 0 s19 s18)) s18) []) s22)).bind fun x44 => (iter (fun s => impl_rank_l46 a0 s18 s19 s22 x30 x44 s.1 s.2) (w64 (s18 + 1), s20)).bind fun o => match o with | .stop (s47, s48) => (some (.next (w64 (s18 + 1), ((s19.set s18.toNat (gl 0 s19 (w64 (s18 + x30)))).set (w64 (s18 + x30)).toNat (gl 0 s19 s18)), s48, w64 (s22 + 1)))) | .ret r => some (.ret r) | .next _ => none) else none) else none) else none) else none) else none)) else none) else (some (.stop (s18, s19, s20, s22)))
noncomputable def impl_rank (a0 : Int) (a1 : List (List Int)) : Option Int :=
  (iter (fun s => impl_rank_l1 a1 s.1 s.2.1 s.2.2) (0, ([] : List Nat), ([] : List (List Int)))).bind fun o => match o with | .stop (s2, s3, s4) => ((iter (fun s => impl_rank_l17 a0 s.1 s.2.1 s.2.2.1 s.2.2.2) (0, s3, s4, 0)).bind fun o => match o with | .stop (s18, s19, s20, s22) => (some (s18)) | .ret r => some r | .next _ => none) | .ret r => some r | .next _ => none
theorem impl_rank_ok {w0 : World} {a0 : Int} {a1 : List (List Int)} {va1 : Value} (h1 : Ro (Kd.slice 2 (kf fI64)) w0 va1 a1) {r : Int} (hF : impl_rank a0 a1 = some r) :
    Calls Try.prog 106 [vI a0, va1].toArray w0 fun e w => ∃ v, e = .returned v ∧ Below w0.heap.size w0 w ∧ .int .i64 r = v := by
  refine calls_of (k := 137) Try.func106 rfl rfl (Nat.le_of_ble_eq_true rfl) fun a hf => ?_
  replace hf : Fr 137 a [(0, vI a0), (1, va1)] := hf
  refine c_start fun w ρ hw => ?_
  unfold impl_rank at hF
  refine c_seq <| c_region ?_
  refine s_ hf (r_assign hf rfl) fun a hf => ?_
  refine c_nt <| c_seq <| c_region ?_
  refine sx_ hf (r_lit_none (d := (Kd.slice 2 (kf fI64))) 1 Try.underlying24 el36 hw) fun a v1 w hf hΦ => ?_
  obtain ⟨ρ, hw, hE, o1⟩ := hΦ
  replace o1 : Gd fI64 2 36 ρ w w0.heap.size 1 v1 (fun _ => (⟨.bool false, rfl⟩ : V1)) ([] : List Nat) ([] : List (List Int)) := Gd.empty o1 rfl (by decide) _
  refine s_ hf (r_assign hf rfl) fun a hf => ?_
  refine c_nt <| c_seq <| c_seq <| c_region ?_
  refine s_ hf (r_move hf rfl) fun a hf => ?_
  refine s_ hf (r_len Try.underlying24 (h1.now hw) hf rfl) fun a hf => ?_
  refine s_ hf (r_move hf rfl) fun a hf => ?_
  refine c_nt ?_
  obtain ⟨ol1, ho1, hG1⟩ := of_bind hF
  clear hF
  refine c_block (c_loop (id := 0) (fun s => impl_rank_l1 a1 s.1 s.2.1 s.2.2) (fun (s : Int × (List Nat) × (List (List Int))) a w => match s with | (s2, s3, s4) => ∃ ρ vv5 f6, Wd w0 ρ w ∧ Fr 137 a [(0, vI a0), (5, vv5), (16, va1), (17, vI (a1.length : Int)), (18, vI s2)] ∧ Gd fI64 2 36 ρ w w0.heap.size 1 vv5 f6 s3 s4) (fun (s : Int × (List Nat) × (List (List Int))) a w => match s with | (s2, s3, s4) => ∃ ρ vv5 f6, Wd w0 ρ w ∧ Fr 137 a [(0, vI a0), (5, vv5)] ∧ Gd fI64 2 36 ρ w w0.heap.size 1 vv5 f6 s3 s4) ho1 ⟨_, _, _, hw, hf.sub ⟨rfl, rfl, rfl, rfl, rfl, trivial⟩, o1⟩ ?_ ?_)
  · rintro ⟨s2, s3, s4⟩ lr a w ⟨ρ, vv5, f6, hw, hf, o1⟩ hF
    replace hF : impl_rank_l1 a1 s2 s3 s4 = some lr := hF
    unfold impl_rank_l1 at hF
    refine c_seq <| c_region ?_
    refine s_ hf (r_lss hf rfl rfl) fun a hf => ?_
    refine c_nt <| c_seq ?_
    rcases of_ite hF with ⟨hb7, hF⟩ | ⟨hb7, hF⟩
    rotate_left
    · refine c_iff hf rfl hb7 <| c_exit <| x_then ?_
      obtain rfl := Option.some.inj hF
      exact Rnd.stops ⟨_, _, _, hw, hf.sub ⟨rfl, rfl, trivial⟩, o1⟩
    refine c_ift hf rfl hb7 <| c_skip <| n_then <| c_seq <| c_block <| c_seq <| c_region ?_
    obtain ⟨hc8, hF⟩ := of_guard hF
    obtain ⟨ad9, c9, u9, he9, hl9, ho9⟩ := Ro.el_row h1 hc8.1 hc8.2
    refine s_ hf (r_idx Try.underlying24 sz36 hf rfl ⟨_, he9⟩ rfl hc8.1 hc8.2) fun a hf => ?_
    refine s_ hf (r_load_cell ty36 hf rfl (hl9.below hw.below)) fun a hf => ?_
    refine s_ hf (r_assign hf rfl) fun a hf => ?_
    refine c_nt <| c_region ?_
    refine s_ hf (r_move hf rfl) fun a hf => ?_
    refine s_ hf (r_move hf rfl) fun a hf => ?_
    obtain ⟨x10, hx11, hF⟩ := of_bind hF
    refine st_fn 2 hw hf rfl rfl (by decide) (r_fn en111 hf rfl) (slices_Clone_111_ok (ho9.now hw) hx11) fun a v w ρ hf hw hE hN hΦ => ?_
    obtain ⟨u12, rfl, hr13⟩ := hΦ
    replace o1 := o1.ext hE
    have o2 := hN hr13
    refine sx_ hf (r_glit 3 Try.underlying24 el36 hw hf rfl o2) fun a v3 w hf hΦ => ?_
    obtain ⟨ρ, hw, hE, o3⟩ := hΦ
    replace o1 := o1.ext hE
    replace o2 := o2.ext hE
    obtain ⟨hc14, hF⟩ := of_guard hF
    refine sx_ hf (r_gapp' Try.underlying24 el36 hw (by decide) (by decide) (fun _ => by unfold lab; omega) o1 o3 o2 hc14 hf rfl rfl) fun a va15 w hf hΦ => ?_
    obtain ⟨f15, ρ, hw, hT, o1, hff15, hnu15⟩ := hΦ
    rw [hnu15] at hf
    have hn16 : s4.length < (s4 ++ [x10]).length := by simp
    refine s_ hf (r_assign hf rfl) fun a hf => ?_
    refine c_nil <| n_block <| n_then <| c_region ?_
    refine s_ hf (r_add hf rfl rfl) fun a hf => ?_
    refine s_ hf (r_move hf rfl) fun a hf => ?_
    refine c_nil ?_
    obtain rfl := Option.some.inj hF
    exact Rnd.goes ⟨_, _, _, hw, hf.sub ⟨rfl, rfl, rfl, rfl, rfl, trivial⟩, o1⟩
  rintro ⟨s2, s3, s4⟩ a w hs ⟨ρ, vv5, f6, hw, hf, o1⟩
  subst hs
  have hF := hG1
  dsimp only at hF
  refine x_block <| n_then <| c_seq <| c_region ?_
  refine s_ hf (r_assign hf rfl) fun a hf => ?_
  refine c_nt <| c_seq <| c_seq <| c_region ?_
  refine sx_ hf (r_alloc (cs := [vI 0]) 5 ze3 rfl hw) fun a v w hf hΦ => ?_
  obtain ⟨g5, ρ, rfl, hw, hE, o5⟩ := hΦ
  replace o1 := o1.ext hE
  refine sk_ hf (r_store_w (cs' := [vI 0]) hw o5 (by decide) ty3 rfl rfl (one_one rfl) hf rfl rfl rfl) fun a w hf hΦ => ?_
  obtain ⟨hw, hA, o5⟩ := hΦ
  replace o1 := o1.adv hA (by decide) (fun _ => by unfold lab; omega)
  refine c_nt ?_
  obtain ⟨ol17, ho17, hG17⟩ := of_bind hF
  clear hF
  refine c_block (c_loop (id := 2) (fun s => impl_rank_l17 a0 s.1 s.2.1 s.2.2.1 s.2.2.2) (fun (s : Int × (List Nat) × (List (List Int)) × Int) a w => match s with | (s18, s19, s20, s22) => ∃ ρ g21, Wd w0 ρ w ∧ Fr 137 a [(0, vI a0), (5, vv5), (8, vI s18), (9, .pointer (some ((⟨g21, 0, none⟩ : Addr).add 0)))] ∧ Gd fI64 2 36 ρ w w0.heap.size 1 vv5 f6 s19 s20 ∧ Va ρ w 5 g21 3 ([vI s22])) (fun (s : Int × (List Nat) × (List (List Int)) × Int) a w => match s with | (s18, s19, s20, s22) => ∃ ρ, Wd w0 ρ w ∧ Fr 137 a [(8, vI s18)]) ho17 ⟨_, _, hw, hf.sub ⟨rfl, rfl, rfl, rfl, trivial⟩, o1, o5⟩ ?_ ?_)
  · rintro ⟨s18, s19, s20, s22⟩ lr a w ⟨ρ, g21, hw, hf, o1, o5⟩ hF
    replace hF : impl_rank_l17 a0 s18 s19 s20 s22 = some lr := hF
    unfold impl_rank_l17 at hF
    refine c_seq <| c_seq ?_
    obtain ⟨s24, hT23, hG23⟩ := of_bind hF
    clear hF
    refine c_meet (fun (s24 : Bool) a w => ∃ ρ, Wd w0 ρ w ∧ Fr 137 a [(0, vI a0), (5, vv5), (8, vI s18), (9, .pointer (some ((⟨g21, 0, none⟩ : Addr).add 0))), (39, .bool s24)] ∧ Gd fI64 2 36 ρ w w0.heap.size 1 vv5 f6 s19 s20 ∧ Va ρ w 5 g21 3 ([vI s22])) s24 ?_ ?_
    · have hF := hT23
      rcases of_ite hF with ⟨hb25, hF⟩ | ⟨hb25, hF⟩
      rotate_left
      · replace hf : Fr 137 a [(0, vI a0), (5, vv5), (8, vI s18), (9, .pointer (some ((⟨g21, 0, none⟩ : Addr).add 0)))] := hf.sub ⟨rfl, rfl, rfl, rfl, trivial⟩
        refine c_drawL (h := 10) mixed (by kernel_rfl) (by kernel_rfl) (fun ρ w => Gd fI64 2 36 ρ w w0.heap.size 1 vv5 f6 s19 s20 ∧ Va ρ w 5 g21 3 ([vI s22])) ?_ [fun ρ w v => vI s18 = v, fun ρ w v => vv5 = v, fun ρ w v => vI (s19.length : Int) = v, fun ρ w v => .bool (decide (s18 < (s19.length : Int))) = v, fun ρ w v => .bool (decide (s18 < (s19.length : Int))) = v, fun ρ w v => undef = v, fun ρ w v => undef = v, fun ρ w v => undef = v, fun ρ w v => undef = v, fun ρ w v => undef = v] ?_ hw ⟨o1, o5⟩ hf ?_ ?_
        · intro ρ w ρ' w' hE hG
          obtain ⟨o1, o5⟩ := hG
          exact ⟨o1.ext hE, o5.ext hE⟩
        · exact LastsL.cons (fun _ _ _ _ _ _ h => h) <| LastsL.cons (fun _ _ _ _ _ _ h => h) <| LastsL.cons (fun _ _ _ _ _ _ h => h) <| LastsL.cons (fun _ _ _ _ _ _ h => h) <| LastsL.cons (fun _ _ _ _ _ _ h => h) <| LastsL.cons (fun _ _ _ _ _ _ h => h) <| LastsL.cons (fun _ _ _ _ _ _ h => h) <| LastsL.cons (fun _ _ _ _ _ _ h => h) <| LastsL.cons (fun _ _ _ _ _ _ h => h) <| LastsL.cons (fun _ _ _ _ _ _ h => h) <| LastsL.nil
        · refine StepsB.cons ?_ <| StepsB.cons ?_ <| StepsB.cons ?_ <| StepsB.cons ?_ <| StepsB.cons ?_ <| StepsB.cons ?_ <| StepsB.cons ?_ <| StepsB.cons ?_ <| StepsB.cons ?_ <| StepsB.cons ?_ <| StepsB.nil
          · intro ρ w a hw hG hf hd K hK
            obtain ⟨o1, o5⟩ := hG
            exact dv_ hK hw (wn rfl) (r_move hf rfl) rfl
          · intro ρ w a hw hG hf hd K hK
            obtain ⟨o1, o5⟩ := hG
            exact dv_ hK hw (wn rfl) (r_move hf rfl) rfl
          · intro ρ w a hw hG hf hd K hK
            obtain ⟨o1, o5⟩ := hG
            obtain ⟨_, hf, rfl⟩ := got (hd 1 (by kernel_rfl)) hf
            exact dv_ hK hw (wn rfl) (r_len Try.underlying24 o1.out.ro hf rfl) rfl
          · intro ρ w a hw hG hf hd K hK
            obtain ⟨o1, o5⟩ := hG
            obtain ⟨_, hf, rfl⟩ := got (hd 0 (by kernel_rfl)) hf
            obtain ⟨_, hf, rfl⟩ := got (hd 2 (by kernel_rfl)) hf
            exact dv_ hK hw (wn rfl) (r_lss hf rfl rfl) rfl
          · intro ρ w a hw hG hf hd K hK
            obtain ⟨o1, o5⟩ := hG
            obtain ⟨_, hf, rfl⟩ := got (hd 3 (by kernel_rfl)) hf
            exact dv_ hK hw (wn rfl) (r_move hf rfl) rfl
          · intro ρ w a hw hG hf hd K hK
            obtain ⟨o1, o5⟩ := hG
            obtain ⟨_, hf, rfl⟩ := got (hd 4 (by kernel_rfl)) hf
            exact do_ hK (b := false) hw hf rfl rfl rfl hb25 rfl rfl
          · intro ρ w a hw hG hf hd K hK
            obtain ⟨o1, o5⟩ := hG
            obtain ⟨_, hf, rfl⟩ := got (hd 4 (by kernel_rfl)) hf
            exact do_ hK (b := false) hw hf rfl rfl rfl hb25 rfl rfl
          · intro ρ w a hw hG hf hd K hK
            obtain ⟨o1, o5⟩ := hG
            obtain ⟨_, hf, rfl⟩ := got (hd 4 (by kernel_rfl)) hf
            obtain ⟨_, hf, rfl⟩ := got (hd 6 (by kernel_rfl)) hf
            exact do_ hK (b := false) hw hf rfl rfl rfl hb25 rfl rfl
          · intro ρ w a hw hG hf hd K hK
            obtain ⟨o1, o5⟩ := hG
            obtain ⟨_, hf, rfl⟩ := got (hd 4 (by kernel_rfl)) hf
            obtain ⟨_, hf, rfl⟩ := got (hd 7 (by kernel_rfl)) hf
            exact do_ hK (b := false) hw hf rfl rfl rfl hb25 rfl rfl
          · intro ρ w a hw hG hf hd K hK
            obtain ⟨o1, o5⟩ := hG
            obtain ⟨_, hf, rfl⟩ := got (hd 4 (by kernel_rfl)) hf
            obtain ⟨_, hf, rfl⟩ := got (hd 8 (by kernel_rfl)) hf
            exact do_ hK (b := false) hw hf rfl rfl rfl hb25 rfl rfl
        intro ρ w a hw hG hf hd
        obtain ⟨o1, o5⟩ := hG
        obtain ⟨_, hf, rfl⟩ := got (hd 4 (by decide)) hf
        obtain ⟨_, hf, rfl⟩ := got (hd 5 (by decide)) hf
        obtain ⟨_, hf, rfl⟩ := got (hd 9 (by decide)) hf
        refine st_no (b := false) hf rfl rfl rfl hb25 rfl (by decide) fun a hf => ?_
        refine s_ hf (r_pick (b := false) hf rfl hb25 rfl) fun a hf => ?_
        refine c_nil ⟨rfl, ?_⟩
        obtain rfl := Option.some.inj hF
        exact ⟨_, hw, hf.sub ⟨rfl, rfl, rfl, rfl, rfl, trivial⟩, o1, o5⟩
      obtain ⟨hc26, hF⟩ := of_guard hF
      replace hf : Fr 137 a [(0, vI a0), (5, vv5), (8, vI s18), (9, .pointer (some ((⟨g21, 0, none⟩ : Addr).add 0)))] := hf.sub ⟨rfl, rfl, rfl, rfl, trivial⟩
      refine c_drawL (h := 10) mixed (by kernel_rfl) (by kernel_rfl) (fun ρ w => Gd fI64 2 36 ρ w w0.heap.size 1 vv5 f6 s19 s20 ∧ Va ρ w 5 g21 3 ([vI s22])) ?_ [fun ρ w v => vI s18 = v, fun ρ w v => vv5 = v, fun ρ w v => vI (s19.length : Int) = v, fun ρ w v => .bool (decide (s18 < (s19.length : Int))) = v, fun ρ w v => .bool (decide (s18 < (s19.length : Int))) = v, fun ρ w v => vI s22 = v, fun ρ w v => vv5 = v, fun ρ w v => ∃ ad27, .pointer (some (ad27.add ((0 : Int).toNat * 1))) = v ∧ (gl 0 s19 (0 : Int)) < s20.length ∧ Ce ρ w 1 vv5 s19.length ad27 ((0 : Int).toNat * 1) ([(f6 (gl 0 s19 (0 : Int))).1]), fun ρ w v => (f6 (gl 0 s19 (0 : Int))).1 = v ∧ (gl 0 s19 (0 : Int)) < s20.length, fun ρ w v => vI ((s20.getD (gl 0 s19 (0 : Int)) []).length : Int) = v] ?_ hw ⟨o1, o5⟩ hf ?_ ?_
      · intro ρ w ρ' w' hE hG
        obtain ⟨o1, o5⟩ := hG
        exact ⟨o1.ext hE, o5.ext hE⟩
      · exact LastsL.cons (fun _ _ _ _ _ _ h => h) <| LastsL.cons (fun _ _ _ _ _ _ h => h) <| LastsL.cons (fun _ _ _ _ _ _ h => h) <| LastsL.cons (fun _ _ _ _ _ _ h => h) <| LastsL.cons (fun _ _ _ _ _ _ h => h) <| LastsL.cons (fun _ _ _ _ _ _ h => h) <| LastsL.cons (fun _ _ _ _ _ _ h => h) <| LastsL.cons (fun _ _ _ _ _ hE h => by obtain ⟨ad27, h, hn27, hl27⟩ := h; exact ⟨_, h, hn27, hl27.ext hE⟩) <| LastsL.cons (fun _ _ _ _ _ hE h => by obtain ⟨h, hn27⟩ := h; exact ⟨h, hn27⟩) <| LastsL.cons (fun _ _ _ _ _ _ h => h) <| LastsL.nil
      · refine StepsB.cons ?_ <| StepsB.cons ?_ <| StepsB.cons ?_ <| StepsB.cons ?_ <| StepsB.cons ?_ <| StepsB.cons ?_ <| StepsB.cons ?_ <| StepsB.cons ?_ <| StepsB.cons ?_ <| StepsB.cons ?_ <| StepsB.nil
        · intro ρ w a hw hG hf hd K hK
          obtain ⟨o1, o5⟩ := hG
          exact dv_ hK hw (wn rfl) (r_move hf rfl) rfl
        · intro ρ w a hw hG hf hd K hK
          obtain ⟨o1, o5⟩ := hG
          exact dv_ hK hw (wn rfl) (r_move hf rfl) rfl
        · intro ρ w a hw hG hf hd K hK
          obtain ⟨o1, o5⟩ := hG
          obtain ⟨_, hf, rfl⟩ := got (hd 1 (by kernel_rfl)) hf
          exact dv_ hK hw (wn rfl) (r_len Try.underlying24 o1.out.ro hf rfl) rfl
        · intro ρ w a hw hG hf hd K hK
          obtain ⟨o1, o5⟩ := hG
          obtain ⟨_, hf, rfl⟩ := got (hd 0 (by kernel_rfl)) hf
          obtain ⟨_, hf, rfl⟩ := got (hd 2 (by kernel_rfl)) hf
          exact dv_ hK hw (wn rfl) (r_lss hf rfl rfl) rfl
        · intro ρ w a hw hG hf hd K hK
          obtain ⟨o1, o5⟩ := hG
          obtain ⟨_, hf, rfl⟩ := got (hd 3 (by kernel_rfl)) hf
          exact dv_ hK hw (wn rfl) (r_move hf rfl) rfl
        · intro ρ w a hw hG hf hd K hK
          obtain ⟨o1, o5⟩ := hG
          obtain ⟨_, hf, rfl⟩ := got (hd 4 (by kernel_rfl)) hf
          exact dv_ hK hw (wg (b := true) hf rfl rfl rfl hb25) (r_load_cell ty3 hf rfl o5.cl) rfl
        · intro ρ w a hw hG hf hd K hK
          obtain ⟨o1, o5⟩ := hG
          obtain ⟨_, hf, rfl⟩ := got (hd 4 (by kernel_rfl)) hf
          exact dv_ hK hw (wg (b := true) hf rfl rfl rfl hb25) (r_move hf rfl) rfl
        · intro ρ w a hw hG hf hd K hK
          obtain ⟨o1, o5⟩ := hG
          obtain ⟨_, hf, rfl⟩ := got (hd 4 (by kernel_rfl)) hf
          obtain ⟨_, hf, rfl⟩ := got (hd 6 (by kernel_rfl)) hf
          obtain ⟨ad27, hl27⟩ := Ow.ce (d := fRef f6) o1.out 0 hc26.1 hc26.2
          have hn27 := o1.lt_gl hc26.1 hc26.2
          exact dv_ hK hw (wg (b := true) hf rfl rfl rfl hb25) (r_idx Try.underlying24 sz36 hf rfl hl27.at_ rfl hc26.1 hc26.2) (ex_ <| an_ rfl <| an_ hn27 <| hl27)
        · intro ρ w a hw hG hf hd K hK
          obtain ⟨o1, o5⟩ := hG
          obtain ⟨_, hf, rfl⟩ := got (hd 4 (by kernel_rfl)) hf
          obtain ⟨_, hf, ⟨ad27, rfl, hn27, hl27⟩⟩ := got (hd 7 (by kernel_rfl)) hf
          exact dv_ hK hw (wg (b := true) hf rfl rfl rfl hb25) (r_load_cell ty36 hf rfl hl27.co.cl) (an_ rfl <| hn27)
        · intro ρ w a hw hG hf hd K hK
          obtain ⟨o1, o5⟩ := hG
          obtain ⟨_, hf, rfl⟩ := got (hd 4 (by kernel_rfl)) hf
          obtain ⟨_, hf, ⟨rfl, hn27⟩⟩ := got (hd 8 (by kernel_rfl)) hf
          exact dv_ hK hw (wg (b := true) hf rfl rfl rfl hb25) (r_len Try.underlying36 ((o1.rowAt hn27).ro) hf rfl) rfl
      intro ρ w a hw hG hf hd
      obtain ⟨o1, o5⟩ := hG
      obtain ⟨_, hf, rfl⟩ := got (hd 4 (by decide)) hf
      obtain ⟨_, hf, rfl⟩ := got (hd 5 (by decide)) hf
      obtain ⟨_, hf, rfl⟩ := got (hd 9 (by decide)) hf
      refine st_g (b := true) hf rfl rfl rfl hb25 rfl (by decide) (r_lss hf rfl rfl) fun a hf => ?_
      refine s_ hf (r_pick (b := true) hf rfl hb25 rfl) fun a hf => ?_
      refine c_nil ⟨rfl, ?_⟩
      obtain rfl := Option.some.inj hF
      exact ⟨_, hw, hf.sub ⟨rfl, rfl, rfl, rfl, rfl, trivial⟩, o1, o5⟩
    rintro a w ⟨ρ, hw, hf, o1, o5⟩
    have hF := hG23
    refine n_then ?_
    rcases of_ite hF with ⟨hb28, hF⟩ | ⟨hb28, hF⟩
    rotate_left
    · refine c_iff hf rfl hb28 <| c_exit <| x_then ?_
      obtain rfl := Option.some.inj hF
      exact Rnd.stops ⟨_, hw, hf.sub ⟨rfl, trivial⟩⟩
    refine c_ift hf rfl hb28 <| c_skip <| n_then <| c_seq <| c_block <| c_seq <| c_region ?_
    refine s_ hf (r_move hf rfl) fun a hf => ?_
    refine s_ hf (r_move hf rfl) fun a hf => ?_
    obtain ⟨hc29, hF⟩ := of_guard hF
    have o8 : Ro (Kd.slice 2 (kf fI64)) w (cutV vv5 s18.toNat ((gi s19 s20).length : Int).toNat 1) (((gi s19 s20).take ((gi s19 s20).length : Int).toNat).drop s18.toNat) := ro_cutV o1.ro hc29.1 hc29.2 (Int.le_refl _)
    refine s_ hf (r_cut_v (lo := s18) (hi := ((gi s19 s20).length : Int)) Try.underlying24 sz36 rfl o1.ro hf rfl (.inr ⟨_, rfl, rfl⟩) (.inl ⟨rfl, rfl⟩) hc29.1 hc29.2 (Int.le_refl _)) fun a hf => ?_
    refine s_ hf (r_mkfn hf rfl) fun a hf => ?_
    obtain ⟨x30, hx31, hF⟩ := of_bind hF
    refine st_fn 9 hw hf rfl rfl (by decide) (r_fn en108 hf rfl) (slices_IndexFunc_108_f149_ok o8 o5.cl hx31) fun a v w ρ hf hw hE hN hΦ => ?_
    obtain rfl := hΦ
    replace o1 := o1.ext hE
    replace o5 := o5.ext hE
    replace o8 := o8.ext hE
    refine s_ hf (r_assign hf rfl) fun a hf => ?_
    refine c_nt <| c_seq <| c_seq <| c_region ?_
    refine s_ hf (r_move hf rfl) fun a hf => ?_
    refine s_ hf (r_lss hf rfl rfl) fun a hf => ?_
    refine c_nt ?_
    rcases of_ite hF with ⟨hb32, hF⟩ | ⟨hb32, hF⟩
    · refine c_ift hf rfl hb32 <| c_exit <| x_then <| x_block <| n_then <| c_seq <| c_seq <| c_region ?_
      refine s_ hf (r_load_cell ty3 hf rfl o5.cl) fun a hf => ?_
      refine c_nt <| c_region ?_
      refine sx_ hf (r_alloc (cs := [vI 0]) 10 ze3 rfl hw) fun a v w hf hΦ => ?_
      obtain ⟨g10, ρ, rfl, hw, hE, o10⟩ := hΦ
      replace o1 := o1.ext hE
      replace o5 := o5.ext hE
      replace o8 := o8.ext hE
      refine sk_ hf (r_store_w (cs' := [vI s22]) hw o10 (by decide) ty3 rfl rfl (one_one rfl) hf rfl rfl rfl) fun a w hf hΦ => ?_
      obtain ⟨hw, hA, o10⟩ := hΦ
      replace o1 := o1.adv hA (by decide) (fun _ => by unfold lab; omega)
      replace o5 := o5.adv hA (by decide)
      refine c_nt <| c_region ?_
      refine s_ hf (r_load_cell ty3 hf rfl o10.cl) fun a hf => ?_
      refine s_ hf (r_add hf rfl rfl) fun a hf => ?_
      refine sk_ hf (r_store_w (cs' := [vI (w64 (s22 + 1))]) hw o10 (by decide) ty3 rfl rfl (one_one rfl) hf rfl rfl rfl) fun a w hf hΦ => ?_
      obtain ⟨hw, hA, o10⟩ := hΦ
      replace o1 := o1.adv hA (by decide) (fun _ => by unfold lab; omega)
      replace o5 := o5.adv hA (by decide)
      refine c_nil ?_
      obtain rfl := Option.some.inj hF
      replace o1 := o1.tr (Tr.relab (j := 10) (b := 5) (by decide)) (fun _ => Tr.relab (by unfold lab; omega))
      replace o10 := o10.relab 5
      replace hw := hw.relab (j := 10) (by decide) 5
      exact Rnd.goes ⟨_, _, hw, hf.sub ⟨rfl, rfl, rfl, rfl, trivial⟩, o1, o10⟩
    refine c_iff hf rfl hb32 <| c_skip <| n_then <| c_seq ?_
    obtain ⟨hc33, hF⟩ := of_guard hF
    obtain ⟨hc35, hF⟩ := of_guard hF
    replace hf : Fr 137 a [(0, vI a0), (5, vv5), (8, vI s18), (9, .pointer (some ((⟨g21, 0, none⟩ : Addr).add 0))), (10, vI x30)] := hf.sub ⟨rfl, rfl, rfl, rfl, rfl, trivial⟩
    refine c_stage 18 [17] mixed (by kernel_rfl) (by kernel_rfl) (fun c ρ w => Va ρ w 5 g21 3 ([vI s22]) ∧ (c ≤ 0 → Gd fI64 2 36 ρ w w0.heap.size 1 vv5 f6 s19 s20) ∧ (0 < c → Gd fI64 2 36 ρ w w0.heap.size 1 vv5 f6 (s19.set s18.toNat (gl 0 s19 (w64 (s18 + x30)))) s20)) ?_ [fun c ρ w v => vv5 = v, fun c ρ w v => vI s18 = v, fun c ρ w v => vv5 = v, fun c ρ w v => vI s18 = v, fun c ρ w v => vI x30 = v, fun c ρ w v => vI (w64 (s18 + x30)) = v, fun c ρ w v => vv5 = v, fun c ρ w v => vI s18 = v, fun c ρ w v => vI x30 = v, fun c ρ w v => vI (w64 (s18 + x30)) = v, fun c ρ w v => ∃ ad34, .pointer (some (ad34.add ((w64 (s18 + x30)).toNat * 1))) = v ∧ (gl 0 s19 (w64 (s18 + x30))) < s20.length ∧ (c ≤ 0 → Ce ρ w 1 vv5 s19.length ad34 ((w64 (s18 + x30)).toNat * 1) ([(f6 (gl 0 s19 (w64 (s18 + x30)))).1])), fun c ρ w v => (f6 (gl 0 s19 (w64 (s18 + x30)))).1 = v ∧ (gl 0 s19 (w64 (s18 + x30))) < s20.length, fun c ρ w v => vv5 = v, fun c ρ w v => vI s18 = v, fun c ρ w v => ∃ ad36, .pointer (some (ad36.add (s18.toNat * 1))) = v ∧ (gl 0 s19 s18) < s20.length ∧ (c ≤ 0 → Ce ρ w 1 vv5 s19.length ad36 (s18.toNat * 1) ([(f6 (gl 0 s19 s18)).1])), fun c ρ w v => (f6 (gl 0 s19 s18)).1 = v ∧ (gl 0 s19 s18) < s20.length, fun c ρ w v => ∃ ad37, .pointer (some (ad37.add (s18.toNat * 1))) = v ∧ (gl 0 s19 s18) < s20.length ∧ (c ≤ 0 → Ce ρ w 1 vv5 s19.length ad37 (s18.toNat * 1) ([(f6 (gl 0 s19 s18)).1])), fun _ _ _ _ => True] ?_ hw ⟨o5, (fun _ => o1), (fun h => absurd h (Nat.not_lt_zero _))⟩ hf ?_ ?_
    · intro c ρ w ρ' w' hE hG
      obtain ⟨o5, o1x, o1y⟩ := hG
      exact ⟨o5.ext hE, (fun h => (o1x h).ext hE), (fun h => by obtain o1 := o1y h; exact o1.ext hE)⟩
    · exact LastsS.cons (fun _ _ _ _ _ _ _ h => h) <| LastsS.cons (fun _ _ _ _ _ _ _ h => h) <| LastsS.cons (fun _ _ _ _ _ _ _ h => h) <| LastsS.cons (fun _ _ _ _ _ _ _ h => h) <| LastsS.cons (fun _ _ _ _ _ _ _ h => h) <| LastsS.cons (fun _ _ _ _ _ _ _ h => h) <| LastsS.cons (fun _ _ _ _ _ _ _ h => h) <| LastsS.cons (fun _ _ _ _ _ _ _ h => h) <| LastsS.cons (fun _ _ _ _ _ _ _ h => h) <| LastsS.cons (fun _ _ _ _ _ _ _ h => h) <| LastsS.cons (fun c _ _ _ _ _ hE h => by obtain ⟨ad34, h, hn34, hl34⟩ := h; exact ⟨_, h, hn34, (fun h => (hl34 h).ext hE)⟩) <| LastsS.cons (fun c _ _ _ _ _ hE h => by obtain ⟨h, hn34⟩ := h; exact ⟨h, hn34⟩) <| LastsS.cons (fun _ _ _ _ _ _ _ h => h) <| LastsS.cons (fun _ _ _ _ _ _ _ h => h) <| LastsS.cons (fun c _ _ _ _ _ hE h => by obtain ⟨ad36, h, hn36, hl36⟩ := h; exact ⟨_, h, hn36, (fun h => (hl36 h).ext hE)⟩) <| LastsS.cons (fun c _ _ _ _ _ hE h => by obtain ⟨h, hn36⟩ := h; exact ⟨h, hn36⟩) <| LastsS.cons (fun c _ _ _ _ _ hE h => by obtain ⟨ad37, h, hn37, hl37⟩ := h; exact ⟨_, h, hn37, (fun h => (hl37 h).ext hE)⟩) <| LastsS.cons (fun _ _ _ _ _ _ _ h => h) <| LastsS.nil
    · refine StepsS.float rfl ?_ <| StepsS.float rfl ?_ <| StepsS.float rfl ?_ <| StepsS.float rfl ?_ <| StepsS.float rfl ?_ <| StepsS.float rfl ?_ <| StepsS.float rfl ?_ <| StepsS.float rfl ?_ <| StepsS.float rfl ?_ <| StepsS.float rfl ?_ <| StepsS.float rfl ?_ <| StepsS.float rfl ?_ <| StepsS.float rfl ?_ <| StepsS.float rfl ?_ <| StepsS.float rfl ?_ <| StepsS.float rfl ?_ <| StepsS.float rfl ?_ <| StepsS.main 0 rfl rfl ?_ <| StepsS.nil
      · intro c ρ w a hs hw hG hf hd K hK
        obtain ⟨o5, o1x, o1y⟩ := hG
        have o1 := o1x (hs 0 (by decide) (by kernel_rfl))
        exact dv_ hK hw (wn rfl) (r_move hf rfl) rfl
      · intro c ρ w a hs hw hG hf hd K hK
        obtain ⟨o5, o1x, o1y⟩ := hG
        have o1 := o1x (hs 0 (by decide) (by kernel_rfl))
        exact dv_ hK hw (wn rfl) (r_move hf rfl) rfl
      · intro c ρ w a hs hw hG hf hd K hK
        obtain ⟨o5, o1x, o1y⟩ := hG
        exact dv_ hK hw (wn rfl) (r_move hf rfl) rfl
      · intro c ρ w a hs hw hG hf hd K hK
        obtain ⟨o5, o1x, o1y⟩ := hG
        exact dv_ hK hw (wn rfl) (r_move hf rfl) rfl
      · intro c ρ w a hs hw hG hf hd K hK
        obtain ⟨o5, o1x, o1y⟩ := hG
        exact dv_ hK hw (wn rfl) (r_move hf rfl) rfl
      · intro c ρ w a hs hw hG hf hd K hK
        obtain ⟨o5, o1x, o1y⟩ := hG
        obtain ⟨_, ht3, rfl⟩ := hd 3 (by kernel_rfl) (by kernel_rfl)
        replace hf := hf.more ht3
        obtain ⟨_, ht4, rfl⟩ := hd 4 (by kernel_rfl) (by kernel_rfl)
        replace hf := hf.more ht4
        exact dv_ hK hw (wn rfl) (r_add hf rfl rfl) rfl
      · intro c ρ w a hs hw hG hf hd K hK
        obtain ⟨o5, o1x, o1y⟩ := hG
        have o1 := o1x (hs 0 (by decide) (by kernel_rfl))
        exact dv_ hK hw (wn rfl) (r_move hf rfl) rfl
      · intro c ρ w a hs hw hG hf hd K hK
        obtain ⟨o5, o1x, o1y⟩ := hG
        have o1 := o1x (hs 0 (by decide) (by kernel_rfl))
        exact dv_ hK hw (wn rfl) (r_move hf rfl) rfl
      · intro c ρ w a hs hw hG hf hd K hK
        obtain ⟨o5, o1x, o1y⟩ := hG
        have o1 := o1x (hs 0 (by decide) (by kernel_rfl))
        exact dv_ hK hw (wn rfl) (r_move hf rfl) rfl
      · intro c ρ w a hs hw hG hf hd K hK
        obtain ⟨o5, o1x, o1y⟩ := hG
        have o1 := o1x (hs 0 (by decide) (by kernel_rfl))
        obtain ⟨_, ht7, rfl⟩ := hd 7 (by kernel_rfl) (by kernel_rfl)
        replace hf := hf.more ht7
        obtain ⟨_, ht8, rfl⟩ := hd 8 (by kernel_rfl) (by kernel_rfl)
        replace hf := hf.more ht8
        exact dv_ hK hw (wn rfl) (r_add hf rfl rfl) rfl
      · intro c ρ w a hs hw hG hf hd K hK
        obtain ⟨o5, o1x, o1y⟩ := hG
        have o1 := o1x (hs 0 (by decide) (by kernel_rfl))
        obtain ⟨_, ht6, rfl⟩ := hd 6 (by kernel_rfl) (by kernel_rfl)
        replace hf := hf.more ht6
        obtain ⟨_, ht9, rfl⟩ := hd 9 (by kernel_rfl) (by kernel_rfl)
        replace hf := hf.more ht9
        obtain ⟨ad34, hl34⟩ := Ow.ce (d := fRef f6) o1.out 0 hc33.1 hc33.2
        have hn34 := o1.lt_gl hc33.1 hc33.2
        exact dv_ hK hw (wn rfl) (r_idx Try.underlying24 sz36 hf rfl hl34.at_ rfl hc33.1 hc33.2) (ex_ <| an_ rfl <| an_ hn34 <| fun _ => hl34)
      · intro c ρ w a hs hw hG hf hd K hK
        obtain ⟨o5, o1x, o1y⟩ := hG
        have o1 := o1x (hs 0 (by decide) (by kernel_rfl))
        obtain ⟨_, ht10, ⟨ad34, rfl, hn34, hl34⟩⟩ := hd 10 (by kernel_rfl) (by kernel_rfl)
        replace hl34 := hl34 (hs 0 (by decide) (by kernel_rfl))
        replace hf := hf.more ht10
        exact dv_ hK hw (wn rfl) (r_load_cell ty36 hf rfl hl34.co.cl) (an_ rfl <| hn34)
      · intro c ρ w a hs hw hG hf hd K hK
        obtain ⟨o5, o1x, o1y⟩ := hG
        exact dv_ hK hw (wn rfl) (r_move hf rfl) rfl
      · intro c ρ w a hs hw hG hf hd K hK
        obtain ⟨o5, o1x, o1y⟩ := hG
        exact dv_ hK hw (wn rfl) (r_move hf rfl) rfl
      · intro c ρ w a hs hw hG hf hd K hK
        obtain ⟨o5, o1x, o1y⟩ := hG
        have o1 := o1x (hs 0 (by decide) (by kernel_rfl))
        obtain ⟨_, ht12, rfl⟩ := hd 12 (by kernel_rfl) (by kernel_rfl)
        replace hf := hf.more ht12
        obtain ⟨_, ht13, rfl⟩ := hd 13 (by kernel_rfl) (by kernel_rfl)
        replace hf := hf.more ht13
        obtain ⟨ad36, hl36⟩ := Ow.ce (d := fRef f6) o1.out 0 hc35.1 hc35.2
        have hn36 := o1.lt_gl hc35.1 hc35.2
        exact dv_ hK hw (wn rfl) (r_idx Try.underlying24 sz36 hf rfl hl36.at_ rfl hc35.1 hc35.2) (ex_ <| an_ rfl <| an_ hn36 <| fun _ => hl36)
      · intro c ρ w a hs hw hG hf hd K hK
        obtain ⟨o5, o1x, o1y⟩ := hG
        have o1 := o1x (hs 0 (by decide) (by kernel_rfl))
        obtain ⟨_, ht14, ⟨ad36, rfl, hn36, hl36⟩⟩ := hd 14 (by kernel_rfl) (by kernel_rfl)
        replace hl36 := hl36 (hs 0 (by decide) (by kernel_rfl))
        replace hf := hf.more ht14
        exact dv_ hK hw (wn rfl) (r_load_cell ty36 hf rfl hl36.co.cl) (an_ rfl <| hn36)
      · intro c ρ w a hs hw hG hf hd K hK
        obtain ⟨o5, o1x, o1y⟩ := hG
        have o1 := o1x (hs 0 (by decide) (by kernel_rfl))
        obtain ⟨_, ht0, rfl⟩ := hd 0 (by kernel_rfl) (by kernel_rfl)
        replace hf := hf.more ht0
        obtain ⟨_, ht1, rfl⟩ := hd 1 (by kernel_rfl) (by kernel_rfl)
        replace hf := hf.more ht1
        obtain ⟨ad37, hl37⟩ := Ow.ce (d := fRef f6) o1.out 0 hc35.1 hc35.2
        have hn37 := o1.lt_gl hc35.1 hc35.2
        exact dv_ hK hw (wn rfl) (r_idx Try.underlying24 sz36 hf rfl hl37.at_ rfl hc35.1 hc35.2) (ex_ <| an_ rfl <| an_ hn37 <| fun _ => hl37)
      · intro ρ w a S hw hG hf hS hdep hSi K hK
        obtain ⟨o5, o1x, o1y⟩ := hG
        have hfL := hf
        have o1 := o1x (by decide)
        obtain ⟨_, ht11, ⟨rfl, hn34⟩⟩ := hS 11 (by decide) (hdep 11 (by kernel_rfl)) (by kernel_rfl)
        replace hf := hf.more ht11
        obtain ⟨_, ht16, ⟨ad37, rfl, hn37, hl37⟩⟩ := hS 16 (by decide) (hdep 16 (by kernel_rfl)) (by kernel_rfl)
        replace hl37 := hl37 (by decide)
        replace hf := hf.more ht16
        refine m_skip (Γ := fun c ρ w => Va ρ w 5 g21 3 ([vI s22]) ∧ (c ≤ 0 → Gd fI64 2 36 ρ w w0.heap.size 1 vv5 f6 s19 s20) ∧ (0 < c → Gd fI64 2 36 ρ w w0.heap.size 1 vv5 f6 (s19.set s18.toNat (gl 0 s19 (w64 (s18 + x30)))) s20)) (Rl := [fun c ρ w v => vv5 = v, fun c ρ w v => vI s18 = v, fun c ρ w v => vv5 = v, fun c ρ w v => vI s18 = v, fun c ρ w v => vI x30 = v, fun c ρ w v => vI (w64 (s18 + x30)) = v, fun c ρ w v => vv5 = v, fun c ρ w v => vI s18 = v, fun c ρ w v => vI x30 = v, fun c ρ w v => vI (w64 (s18 + x30)) = v, fun c ρ w v => ∃ ad34, .pointer (some (ad34.add ((w64 (s18 + x30)).toNat * 1))) = v ∧ (gl 0 s19 (w64 (s18 + x30))) < s20.length ∧ (c ≤ 0 → Ce ρ w 1 vv5 s19.length ad34 ((w64 (s18 + x30)).toNat * 1) ([(f6 (gl 0 s19 (w64 (s18 + x30)))).1])), fun c ρ w v => (f6 (gl 0 s19 (w64 (s18 + x30)))).1 = v ∧ (gl 0 s19 (w64 (s18 + x30))) < s20.length, fun c ρ w v => vv5 = v, fun c ρ w v => vI s18 = v, fun c ρ w v => ∃ ad36, .pointer (some (ad36.add (s18.toNat * 1))) = v ∧ (gl 0 s19 s18) < s20.length ∧ (c ≤ 0 → Ce ρ w 1 vv5 s19.length ad36 (s18.toNat * 1) ([(f6 (gl 0 s19 s18)).1])), fun c ρ w v => (f6 (gl 0 s19 s18)).1 = v ∧ (gl 0 s19 s18) < s20.length, fun c ρ w v => ∃ ad37, .pointer (some (ad37.add (s18.toNat * 1))) = v ∧ (gl 0 s19 s18) < s20.length ∧ (c ≤ 0 → Ce ρ w 1 vv5 s19.length ad37 (s18.toNat * 1) ([(f6 (gl 0 s19 s18)).1])), fun _ _ _ _ => True]) hfL hS (by kernel_rfl) rfl (wn rfl) (r_gset (p := s18) hw o1 hn34 hc35.1 hc35.2 hl37.at_ ty36 rfl hf rfl rfl) (fun w' hΦ => ?_) hK
        obtain ⟨hw, hA, o1⟩ := hΦ
        replace o5 := o5.adv hA (by decide)
        refine ⟨_, hw, ⟨o5, (fun h => absurd h (by decide)), (fun _ => o1)⟩, ?_⟩
        · exact PassL.cons (fun h => h) <| PassL.cons (fun h => h) <| PassL.cons (fun h => h) <| PassL.cons (fun h => h) <| PassL.cons (fun h => h) <| PassL.cons (fun h => h) <| PassL.cons (fun h => h) <| PassL.cons (fun h => h) <| PassL.cons (fun h => h) <| PassL.cons (fun h => h) <| PassL.cons (fun h => by obtain ⟨_, ht, ad34, h, hn34, hl34⟩ := h; exact ⟨_, ht, _, h, hn34, (fun h => absurd h (by decide))⟩) <| PassL.cons (fun h => by obtain ⟨_, ht, h, hn34⟩ := h; exact ⟨_, ht, h, hn34⟩) <| PassL.cons (fun h => h) <| PassL.cons (fun h => h) <| PassL.cons (fun h => by obtain ⟨_, ht, ad36, h, hn36, hl36⟩ := h; exact ⟨_, ht, _, h, hn36, (fun h => absurd h (by decide))⟩) <| PassL.cons (fun h => by obtain ⟨_, ht, h, hn36⟩ := h; exact ⟨_, ht, h, hn36⟩) <| PassL.cons (fun h => by obtain ⟨_, ht, ad37, h, hn37, hl37⟩ := h; exact ⟨_, ht, _, h, hn37, (fun h => absurd h (by decide))⟩) <| PassL.here <| PassL.nil
    intro ρ w a hw hG hf hd
    obtain ⟨o5, o1x, o1y⟩ := hG
    obtain o1 := o1y (by decide)
    obtain ⟨_, hf, rfl⟩ := got (hd 2 (by decide) (by kernel_rfl)) hf
    obtain ⟨_, hf, rfl⟩ := got (hd 5 (by decide) (by kernel_rfl)) hf
    obtain ⟨_, hf, ⟨rfl, hn36⟩⟩ := got (hd 15 (by decide) (by kernel_rfl)) hf
    obtain ⟨hc38, hF⟩ := of_guard hF
    obtain ⟨ad39, hl39⟩ := Ow.ce (d := fRef f6) o1.out 0 hc38.1 hc38.2
    have hn39 := o1.lt_gl hc38.1 hc38.2
    refine s_ hf (r_idx Try.underlying24 sz36 hf rfl hl39.at_ rfl hc38.1 hc38.2) fun a hf => ?_
    refine sk_ hf (r_gset (p := w64 (s18 + x30)) hw o1 hn36 hc38.1 hc38.2 hl39.at_ ty36 rfl hf rfl rfl) fun a w hf hΦ => ?_
    obtain ⟨hw, hA, o1⟩ := hΦ
    replace o5 := o5.adv hA (by decide)
    refine c_nt <| c_seq ?_
    obtain ⟨hc40, hF⟩ := of_guard hF
    obtain ⟨hc42, hF⟩ := of_guard hF
    replace hf : Fr 137 a [(0, vI a0), (5, vv5), (8, vI s18), (9, .pointer (some ((⟨g21, 0, none⟩ : Addr).add 0)))] := hf.sub ⟨rfl, rfl, rfl, rfl, trivial⟩
    refine c_drawL (h := 8) mixed (by kernel_rfl) (by kernel_rfl) (fun ρ w => Gd fI64 2 36 ρ w w0.heap.size 1 vv5 f6 ((s19.set s18.toNat (gl 0 s19 (w64 (s18 + x30)))).set (w64 (s18 + x30)).toNat (gl 0 s19 s18)) s20 ∧ Va ρ w 5 g21 3 ([vI s22])) ?_ [fun ρ w v => vI a0 = v, fun ρ w v => vv5 = v, fun ρ w v => vI s18 = v, fun ρ w v => ∃ ad41, .pointer (some (ad41.add (s18.toNat * 1))) = v ∧ (gl 0 ((s19.set s18.toNat (gl 0 s19 (w64 (s18 + x30)))).set (w64 (s18 + x30)).toNat (gl 0 s19 s18)) s18) < s20.length ∧ Ce ρ w 1 vv5 (((s19.set s18.toNat (gl 0 s19 (w64 (s18 + x30)))).set (w64 (s18 + x30)).toNat (gl 0 s19 s18)).length) ad41 (s18.toNat * 1) ([(f6 (gl 0 ((s19.set s18.toNat (gl 0 s19 (w64 (s18 + x30)))).set (w64 (s18 + x30)).toNat (gl 0 s19 s18)) s18)).1]), fun ρ w v => (f6 (gl 0 ((s19.set s18.toNat (gl 0 s19 (w64 (s18 + x30)))).set (w64 (s18 + x30)).toNat (gl 0 s19 s18)) s18)).1 = v ∧ (gl 0 ((s19.set s18.toNat (gl 0 s19 (w64 (s18 + x30)))).set (w64 (s18 + x30)).toNat (gl 0 s19 s18)) s18) < s20.length, fun ρ w v => vI s22 = v, fun ρ w v => ∃ ad43, .pointer (some (ad43.add (s22.toNat * 1))) = v ∧ Ce ρ w (lab 1 (gl 0 ((s19.set s18.toNat (gl 0 s19 (w64 (s18 + x30)))).set (w64 (s18 + x30)).toNat (gl 0 s19 s18)) s18)) ((f6 (gl 0 ((s19.set s18.toNat (gl 0 s19 (w64 (s18 + x30)))).set (w64 (s18 + x30)).toNat (gl 0 s19 s18)) s18)).1) ((s20.getD (gl 0 ((s19.set s18.toNat (gl 0 s19 (w64 (s18 + x30)))).set (w64 (s18 + x30)).toNat (gl 0 s19 s18)) s18) []).length) ad43 (s22.toNat * 1) (fI64.enc (gl 0 (s20.getD (gl 0 ((s19.set s18.toNat (gl 0 s19 (w64 (s18 + x30)))).set (w64 (s18 + x30)).toNat (gl 0 s19 s18)) s18) []) s22)), fun ρ w v => vI (gl 0 (s20.getD (gl 0 ((s19.set s18.toNat (gl 0 s19 (w64 (s18 + x30)))).set (w64 (s18 + x30)).toNat (gl 0 s19 s18)) s18) []) s22) = v] ?_ hw ⟨o1, o5⟩ hf ?_ ?_
    · intro ρ w ρ' w' hE hG
      obtain ⟨o1, o5⟩ := hG
      exact ⟨o1.ext hE, o5.ext hE⟩
    · exact LastsL.cons (fun _ _ _ _ _ _ h => h) <| LastsL.cons (fun _ _ _ _ _ _ h => h) <| LastsL.cons (fun _ _ _ _ _ _ h => h) <| LastsL.cons (fun _ _ _ _ _ hE h => by obtain ⟨ad41, h, hn41, hl41⟩ := h; exact ⟨_, h, hn41, hl41.ext hE⟩) <| LastsL.cons (fun _ _ _ _ _ hE h => by obtain ⟨h, hn41⟩ := h; exact ⟨h, hn41⟩) <| LastsL.cons (fun _ _ _ _ _ _ h => h) <| LastsL.cons (fun _ _ _ _ _ hE h => by obtain ⟨ad43, h, hl43⟩ := h; exact ⟨_, h, hl43.ext hE⟩) <| LastsL.cons (fun _ _ _ _ _ _ h => h) <| LastsL.nil
    · refine StepsB.cons ?_ <| StepsB.cons ?_ <| StepsB.cons ?_ <| StepsB.cons ?_ <| StepsB.cons ?_ <| StepsB.cons ?_ <| StepsB.cons ?_ <| StepsB.cons ?_ <| StepsB.nil
      · intro ρ w a hw hG hf hd K hK
        obtain ⟨o1, o5⟩ := hG
        exact dv_ hK hw (wn rfl) (r_move hf rfl) rfl
      · intro ρ w a hw hG hf hd K hK
        obtain ⟨o1, o5⟩ := hG
        exact dv_ hK hw (wn rfl) (r_move hf rfl) rfl
      · intro ρ w a hw hG hf hd K hK
        obtain ⟨o1, o5⟩ := hG
        exact dv_ hK hw (wn rfl) (r_move hf rfl) rfl
      · intro ρ w a hw hG hf hd K hK
        obtain ⟨o1, o5⟩ := hG
        obtain ⟨_, hf, rfl⟩ := got (hd 1 (by kernel_rfl)) hf
        obtain ⟨_, hf, rfl⟩ := got (hd 2 (by kernel_rfl)) hf
        obtain ⟨ad41, hl41⟩ := Ow.ce (d := fRef f6) o1.out 0 hc40.1 hc40.2
        have hn41 := o1.lt_gl hc40.1 hc40.2
        exact dv_ hK hw (wn rfl) (r_idx Try.underlying24 sz36 hf rfl hl41.at_ rfl hc40.1 hc40.2) (ex_ <| an_ rfl <| an_ hn41 <| hl41)
      · intro ρ w a hw hG hf hd K hK
        obtain ⟨o1, o5⟩ := hG
        obtain ⟨_, hf, ⟨ad41, rfl, hn41, hl41⟩⟩ := got (hd 3 (by kernel_rfl)) hf
        exact dv_ hK hw (wn rfl) (r_load_cell ty36 hf rfl hl41.co.cl) (an_ rfl <| hn41)
      · intro ρ w a hw hG hf hd K hK
        obtain ⟨o1, o5⟩ := hG
        exact dv_ hK hw (wn rfl) (r_load_cell ty3 hf rfl o5.cl) rfl
      · intro ρ w a hw hG hf hd K hK
        obtain ⟨o1, o5⟩ := hG
        obtain ⟨_, hf, ⟨rfl, hn41⟩⟩ := got (hd 4 (by kernel_rfl)) hf
        obtain ⟨_, hf, rfl⟩ := got (hd 5 (by kernel_rfl)) hf
        obtain ⟨ad43, hl43⟩ := Ow.ce (d := fI64) (o1.rowAt hn41) 0 hc42.1 hc42.2
        exact dv_ hK hw (wn rfl) (r_idx Try.underlying36 sz2 hf rfl hl43.at_ rfl hc42.1 hc42.2) (ex_ <| an_ rfl <| hl43)
      · intro ρ w a hw hG hf hd K hK
        obtain ⟨o1, o5⟩ := hG
        obtain ⟨_, hf, ⟨ad43, rfl, hl43⟩⟩ := got (hd 6 (by kernel_rfl)) hf
        exact dv_ hK hw (wn rfl) (r_load_cell ty2 hf rfl hl43.co.cl) rfl
    intro ρ w a hw hG hf hd
    obtain ⟨o1, o5⟩ := hG
    obtain ⟨_, hf, rfl⟩ := got (hd 0 (by decide)) hf
    obtain ⟨_, hf, rfl⟩ := got (hd 7 (by decide)) hf
    obtain ⟨x44, hx45, hF⟩ := of_bind hF
    refine st_fn 22 hw hf rfl rfl (by decide) (r_fn en110 hf rfl) (impl_inverse_ok  hx45) fun a v w ρ hf hw hE hN hΦ => ?_
    obtain rfl := hΦ
    replace o1 := o1.ext hE
    replace o5 := o5.ext hE
    refine s_ hf (r_assign hf rfl) fun a hf => ?_
    refine c_nt <| c_seq <| c_seq <| c_region ?_
    refine s_ hf (r_move hf rfl) fun a hf => ?_
    refine s_ hf (r_add hf rfl rfl) fun a hf => ?_
    refine s_ hf (r_assign hf rfl) fun a hf => ?_
    refine c_nt ?_
    obtain ⟨ol46, ho46, hG46⟩ := of_bind hF
    clear hF
    refine c_block (c_loop (id := 4) (fun s => impl_rank_l46 a0 s18 s19 s22 x30 x44 s.1 s.2) (fun (s : Int × (List (List Int))) a w => match s with | (s47, s48) => ∃ ρ, Wd w0 ρ w ∧ Fr 137 a [(0, vI a0), (5, vv5), (8, vI s18), (9, .pointer (some ((⟨g21, 0, none⟩ : Addr).add 0))), (11, vI x44), (12, vI s47)] ∧ Gd fI64 2 36 ρ w w0.heap.size 1 vv5 f6 ((s19.set s18.toNat (gl 0 s19 (w64 (s18 + x30)))).set (w64 (s18 + x30)).toNat (gl 0 s19 s18)) s48 ∧ Va ρ w 5 g21 3 ([vI s22])) (fun (s : Int × (List (List Int))) a w => match s with | (s47, s48) => ∃ ρ, Wd w0 ρ w ∧ Fr 137 a [(0, vI a0), (5, vv5), (8, vI s18), (9, .pointer (some ((⟨g21, 0, none⟩ : Addr).add 0)))] ∧ Gd fI64 2 36 ρ w w0.heap.size 1 vv5 f6 ((s19.set s18.toNat (gl 0 s19 (w64 (s18 + x30)))).set (w64 (s18 + x30)).toNat (gl 0 s19 s18)) s48 ∧ Va ρ w 5 g21 3 ([vI s22])) ho46 ⟨_, hw, hf.sub ⟨rfl, rfl, rfl, rfl, rfl, rfl, trivial⟩, o1, o5⟩ ?_ ?_)
    · rintro ⟨s47, s48⟩ lr a w ⟨ρ, hw, hf, o1, o5⟩ hF
      replace hF : impl_rank_l46 a0 s18 s19 s22 x30 x44 s47 s48 = some lr := hF
      unfold impl_rank_l46 at hF
      refine c_seq <| c_seq <| c_region ?_
      refine s_ hf (r_move hf rfl) fun a hf => ?_
      refine s_ hf (r_move hf rfl) fun a hf => ?_
      refine s_ hf (r_len Try.underlying24 o1.out.ro hf rfl) fun a hf => ?_
      refine s_ hf (r_lss hf rfl rfl) fun a hf => ?_
      refine c_nt ?_
      rcases of_ite hF with ⟨hb49, hF⟩ | ⟨hb49, hF⟩
      rotate_left
      · refine c_iff hf rfl hb49 <| c_exit <| x_then ?_
        obtain rfl := Option.some.inj hF
        exact Rnd.stops ⟨_, hw, hf.sub ⟨rfl, rfl, rfl, rfl, trivial⟩, o1, o5⟩
      refine c_ift hf rfl hb49 <| c_skip <| n_then <| c_seq <| c_block <| c_seq ?_
      obtain ⟨hc50, hF⟩ := of_guard hF
      obtain ⟨hc52, hF⟩ := of_guard hF
      replace hf : Fr 137 a [(0, vI a0), (5, vv5), (8, vI s18), (9, .pointer (some ((⟨g21, 0, none⟩ : Addr).add 0))), (11, vI x44), (12, vI s47)] := hf.sub ⟨rfl, rfl, rfl, rfl, rfl, rfl, trivial⟩
      refine c_drawL (h := 10) mixed (by kernel_rfl) (by kernel_rfl) (fun ρ w => Gd fI64 2 36 ρ w w0.heap.size 1 vv5 f6 ((s19.set s18.toNat (gl 0 s19 (w64 (s18 + x30)))).set (w64 (s18 + x30)).toNat (gl 0 s19 s18)) s48 ∧ Va ρ w 5 g21 3 ([vI s22])) ?_ [fun ρ w v => vv5 = v, fun ρ w v => vI s47 = v, fun ρ w v => ∃ ad51, .pointer (some (ad51.add (s47.toNat * 1))) = v ∧ (gl 0 ((s19.set s18.toNat (gl 0 s19 (w64 (s18 + x30)))).set (w64 (s18 + x30)).toNat (gl 0 s19 s18)) s47) < s48.length ∧ Ce ρ w 1 vv5 (((s19.set s18.toNat (gl 0 s19 (w64 (s18 + x30)))).set (w64 (s18 + x30)).toNat (gl 0 s19 s18)).length) ad51 (s47.toNat * 1) ([(f6 (gl 0 ((s19.set s18.toNat (gl 0 s19 (w64 (s18 + x30)))).set (w64 (s18 + x30)).toNat (gl 0 s19 s18)) s47)).1]), fun ρ w v => (f6 (gl 0 ((s19.set s18.toNat (gl 0 s19 (w64 (s18 + x30)))).set (w64 (s18 + x30)).toNat (gl 0 s19 s18)) s47)).1 = v ∧ (gl 0 ((s19.set s18.toNat (gl 0 s19 (w64 (s18 + x30)))).set (w64 (s18 + x30)).toNat (gl 0 s19 s18)) s47) < s48.length, fun ρ w v => vI s22 = v, fun ρ w v => ∃ ad53, .pointer (some (ad53.add (s22.toNat * 1))) = v ∧ Ce ρ w (lab 1 (gl 0 ((s19.set s18.toNat (gl 0 s19 (w64 (s18 + x30)))).set (w64 (s18 + x30)).toNat (gl 0 s19 s18)) s47)) ((f6 (gl 0 ((s19.set s18.toNat (gl 0 s19 (w64 (s18 + x30)))).set (w64 (s18 + x30)).toNat (gl 0 s19 s18)) s47)).1) ((s48.getD (gl 0 ((s19.set s18.toNat (gl 0 s19 (w64 (s18 + x30)))).set (w64 (s18 + x30)).toNat (gl 0 s19 s18)) s47) []).length) ad53 (s22.toNat * 1) (fI64.enc (gl 0 (s48.getD (gl 0 ((s19.set s18.toNat (gl 0 s19 (w64 (s18 + x30)))).set (w64 (s18 + x30)).toNat (gl 0 s19 s18)) s47) []) s22)), fun ρ w v => vI (gl 0 (s48.getD (gl 0 ((s19.set s18.toNat (gl 0 s19 (w64 (s18 + x30)))).set (w64 (s18 + x30)).toNat (gl 0 s19 s18)) s47) []) s22) = v, fun ρ w v => vI x44 = v, fun ρ w v => vI (w64 ((gl 0 (s48.getD (gl 0 ((s19.set s18.toNat (gl 0 s19 (w64 (s18 + x30)))).set (w64 (s18 + x30)).toNat (gl 0 s19 s18)) s47) []) s22) * x44)) = v, fun ρ w v => vI a0 = v] ?_ hw ⟨o1, o5⟩ hf ?_ ?_
      · intro ρ w ρ' w' hE hG
        obtain ⟨o1, o5⟩ := hG
        exact ⟨o1.ext hE, o5.ext hE⟩
      · exact LastsL.cons (fun _ _ _ _ _ _ h => h) <| LastsL.cons (fun _ _ _ _ _ _ h => h) <| LastsL.cons (fun _ _ _ _ _ hE h => by obtain ⟨ad51, h, hn51, hl51⟩ := h; exact ⟨_, h, hn51, hl51.ext hE⟩) <| LastsL.cons (fun _ _ _ _ _ hE h => by obtain ⟨h, hn51⟩ := h; exact ⟨h, hn51⟩) <| LastsL.cons (fun _ _ _ _ _ _ h => h) <| LastsL.cons (fun _ _ _ _ _ hE h => by obtain ⟨ad53, h, hl53⟩ := h; exact ⟨_, h, hl53.ext hE⟩) <| LastsL.cons (fun _ _ _ _ _ _ h => h) <| LastsL.cons (fun _ _ _ _ _ _ h => h) <| LastsL.cons (fun _ _ _ _ _ _ h => h) <| LastsL.cons (fun _ _ _ _ _ _ h => h) <| LastsL.nil
      · refine StepsB.cons ?_ <| StepsB.cons ?_ <| StepsB.cons ?_ <| StepsB.cons ?_ <| StepsB.cons ?_ <| StepsB.cons ?_ <| StepsB.cons ?_ <| StepsB.cons ?_ <| StepsB.cons ?_ <| StepsB.cons ?_ <| StepsB.nil
        · intro ρ w a hw hG hf hd K hK
          obtain ⟨o1, o5⟩ := hG
          exact dv_ hK hw (wn rfl) (r_move hf rfl) rfl
        · intro ρ w a hw hG hf hd K hK
          obtain ⟨o1, o5⟩ := hG
          exact dv_ hK hw (wn rfl) (r_move hf rfl) rfl
        · intro ρ w a hw hG hf hd K hK
          obtain ⟨o1, o5⟩ := hG
          obtain ⟨_, hf, rfl⟩ := got (hd 0 (by kernel_rfl)) hf
          obtain ⟨_, hf, rfl⟩ := got (hd 1 (by kernel_rfl)) hf
          obtain ⟨ad51, hl51⟩ := Ow.ce (d := fRef f6) o1.out 0 hc50.1 hc50.2
          have hn51 := o1.lt_gl hc50.1 hc50.2
          exact dv_ hK hw (wn rfl) (r_idx Try.underlying24 sz36 hf rfl hl51.at_ rfl hc50.1 hc50.2) (ex_ <| an_ rfl <| an_ hn51 <| hl51)
        · intro ρ w a hw hG hf hd K hK
          obtain ⟨o1, o5⟩ := hG
          obtain ⟨_, hf, ⟨ad51, rfl, hn51, hl51⟩⟩ := got (hd 2 (by kernel_rfl)) hf
          exact dv_ hK hw (wn rfl) (r_load_cell ty36 hf rfl hl51.co.cl) (an_ rfl <| hn51)
        · intro ρ w a hw hG hf hd K hK
          obtain ⟨o1, o5⟩ := hG
          exact dv_ hK hw (wn rfl) (r_load_cell ty3 hf rfl o5.cl) rfl
        · intro ρ w a hw hG hf hd K hK
          obtain ⟨o1, o5⟩ := hG
          obtain ⟨_, hf, ⟨rfl, hn51⟩⟩ := got (hd 3 (by kernel_rfl)) hf
          obtain ⟨_, hf, rfl⟩ := got (hd 4 (by kernel_rfl)) hf
          obtain ⟨ad53, hl53⟩ := Ow.ce (d := fI64) (o1.rowAt hn51) 0 hc52.1 hc52.2
          exact dv_ hK hw (wn rfl) (r_idx Try.underlying36 sz2 hf rfl hl53.at_ rfl hc52.1 hc52.2) (ex_ <| an_ rfl <| hl53)
        · intro ρ w a hw hG hf hd K hK
          obtain ⟨o1, o5⟩ := hG
          obtain ⟨_, hf, ⟨ad53, rfl, hl53⟩⟩ := got (hd 5 (by kernel_rfl)) hf
          exact dv_ hK hw (wn rfl) (r_load_cell ty2 hf rfl hl53.co.cl) rfl
        · intro ρ w a hw hG hf hd K hK
          obtain ⟨o1, o5⟩ := hG
          exact dv_ hK hw (wn rfl) (r_move hf rfl) rfl
        · intro ρ w a hw hG hf hd K hK
          obtain ⟨o1, o5⟩ := hG
          obtain ⟨_, hf, rfl⟩ := got (hd 6 (by kernel_rfl)) hf
          obtain ⟨_, hf, rfl⟩ := got (hd 7 (by kernel_rfl)) hf
          exact dv_ hK hw (wn rfl) (r_mul hf rfl rfl) rfl
        · intro ρ w a hw hG hf hd K hK
          obtain ⟨o1, o5⟩ := hG
          exact dv_ hK hw (wn rfl) (r_move hf rfl) rfl
      intro ρ w a hw hG hf hd
      obtain ⟨o1, o5⟩ := hG
      obtain ⟨_, hf, rfl⟩ := got (hd 8 (by decide)) hf
      obtain ⟨_, hf, rfl⟩ := got (hd 9 (by decide)) hf
      obtain ⟨hc54, hF⟩ := of_guard hF
      refine s_ hf (r_rem hf rfl rfl hc54) fun a hf => ?_
      refine s_ hf (r_assign hf rfl) fun a hf => ?_
      refine c_nt <| c_seq <| c_region ?_
      refine s_ hf (r_move hf rfl) fun a hf => ?_
      refine s_ hf (r_move hf rfl) fun a hf => ?_
      obtain ⟨ad55, hl55⟩ := Ow.ce (d := fRef f6) o1.out 0 hc50.1 hc50.2
      have hn55 := o1.lt_gl hc50.1 hc50.2
      refine s_ hf (r_idx Try.underlying24 sz36 hf rfl hl55.at_ rfl hc50.1 hc50.2) fun a hf => ?_
      refine s_ hf (r_load_cell ty36 hf rfl hl55.co.cl) fun a hf => ?_
      refine s_ hf (r_len Try.underlying36 ((o1.rowAt hn55).ro) hf rfl) fun a hf => ?_
      refine s_ hf (r_move hf rfl) fun a hf => ?_
      refine c_nt ?_
      obtain ⟨ol56, ho56, hG56⟩ := of_bind hF
      clear hF
      refine c_block (c_loop (id := 6) (fun s => impl_rank_l56 a0 s18 s19 s22 x30 x44 s47 s48 s.1 s.2) (fun (s : Int × (List (List Int))) a w => match s with | (s57, s58) => ∃ ρ, Wd w0 ρ w ∧ Fr 137 a [(0, vI a0), (5, vv5), (8, vI s18), (9, .pointer (some ((⟨g21, 0, none⟩ : Addr).add 0))), (11, vI x44), (12, vI s47), (13, vI ((w64 ((gl 0 (s48.getD (gl 0 ((s19.set s18.toNat (gl 0 s19 (w64 (s18 + x30)))).set (w64 (s18 + x30)).toNat (gl 0 s19 s18)) s47) []) s22) * x44)).tmod a0)), (99, vI ((s48.getD (gl 0 ((s19.set s18.toNat (gl 0 s19 (w64 (s18 + x30)))).set (w64 (s18 + x30)).toNat (gl 0 s19 s18)) s47) []).length : Int)), (100, vI s57)] ∧ Gd fI64 2 36 ρ w w0.heap.size 1 vv5 f6 ((s19.set s18.toNat (gl 0 s19 (w64 (s18 + x30)))).set (w64 (s18 + x30)).toNat (gl 0 s19 s18)) s58 ∧ Va ρ w 5 g21 3 ([vI s22])) (fun (s : Int × (List (List Int))) a w => match s with | (s57, s58) => ∃ ρ, Wd w0 ρ w ∧ Fr 137 a [(0, vI a0), (5, vv5), (8, vI s18), (9, .pointer (some ((⟨g21, 0, none⟩ : Addr).add 0))), (11, vI x44), (12, vI s47)] ∧ Gd fI64 2 36 ρ w w0.heap.size 1 vv5 f6 ((s19.set s18.toNat (gl 0 s19 (w64 (s18 + x30)))).set (w64 (s18 + x30)).toNat (gl 0 s19 s18)) s58 ∧ Va ρ w 5 g21 3 ([vI s22])) ho56 ⟨_, hw, hf.sub ⟨rfl, rfl, rfl, rfl, rfl, rfl, rfl, rfl, rfl, trivial⟩, o1, o5⟩ ?_ ?_)
      · rintro ⟨s57, s58⟩ lr a w ⟨ρ, hw, hf, o1, o5⟩ hF
        replace hF : impl_rank_l56 a0 s18 s19 s22 x30 x44 s47 s48 s57 s58 = some lr := hF
        unfold impl_rank_l56 at hF
        refine c_seq <| c_region ?_
        refine s_ hf (r_lss hf rfl rfl) fun a hf => ?_
        refine c_nt <| c_seq ?_
        rcases of_ite hF with ⟨hb59, hF⟩ | ⟨hb59, hF⟩
        rotate_left
        · refine c_iff hf rfl hb59 <| c_exit <| x_then ?_
          obtain rfl := Option.some.inj hF
          exact Rnd.stops ⟨_, hw, hf.sub ⟨rfl, rfl, rfl, rfl, rfl, rfl, trivial⟩, o1, o5⟩
        refine c_ift hf rfl hb59 <| c_skip <| n_then <| c_seq <| c_block <| c_seq <| c_region ?_
        refine s_ hf (r_move hf rfl) fun a hf => ?_
        refine s_ hf (r_assign hf rfl) fun a hf => ?_
        refine c_nt ?_
        obtain ⟨hc62, hF⟩ := of_guard hF
        obtain ⟨hc65, hF⟩ := of_guard hF
        replace hf : Fr 137 a [(0, vI a0), (5, vv5), (8, vI s18), (9, .pointer (some ((⟨g21, 0, none⟩ : Addr).add 0))), (11, vI x44), (12, vI s47), (13, vI ((w64 ((gl 0 (s48.getD (gl 0 ((s19.set s18.toNat (gl 0 s19 (w64 (s18 + x30)))).set (w64 (s18 + x30)).toNat (gl 0 s19 s18)) s47) []) s22) * x44)).tmod a0)), (14, vI s57), (99, vI ((s48.getD (gl 0 ((s19.set s18.toNat (gl 0 s19 (w64 (s18 + x30)))).set (w64 (s18 + x30)).toNat (gl 0 s19 s18)) s47) []).length : Int)), (100, vI s57)] := hf.sub ⟨rfl, rfl, rfl, rfl, rfl, rfl, rfl, rfl, rfl, rfl, trivial⟩
        refine c_drawL (h := 28) mixed (by kernel_rfl) (by kernel_rfl) (fun ρ w => Gd fI64 2 36 ρ w w0.heap.size 1 vv5 f6 ((s19.set s18.toNat (gl 0 s19 (w64 (s18 + x30)))).set (w64 (s18 + x30)).toNat (gl 0 s19 s18)) s58 ∧ Va ρ w 5 g21 3 ([vI s22])) ?_ [fun ρ w v => vv5 = v, fun ρ w v => vI s47 = v, fun ρ w v => ∃ ad60, .pointer (some (ad60.add (s47.toNat * 1))) = v ∧ (gl 0 ((s19.set s18.toNat (gl 0 s19 (w64 (s18 + x30)))).set (w64 (s18 + x30)).toNat (gl 0 s19 s18)) s47) < s58.length ∧ Ce ρ w 1 vv5 (((s19.set s18.toNat (gl 0 s19 (w64 (s18 + x30)))).set (w64 (s18 + x30)).toNat (gl 0 s19 s18)).length) ad60 (s47.toNat * 1) ([(f6 (gl 0 ((s19.set s18.toNat (gl 0 s19 (w64 (s18 + x30)))).set (w64 (s18 + x30)).toNat (gl 0 s19 s18)) s47)).1]), fun ρ w v => (f6 (gl 0 ((s19.set s18.toNat (gl 0 s19 (w64 (s18 + x30)))).set (w64 (s18 + x30)).toNat (gl 0 s19 s18)) s47)).1 = v ∧ (gl 0 ((s19.set s18.toNat (gl 0 s19 (w64 (s18 + x30)))).set (w64 (s18 + x30)).toNat (gl 0 s19 s18)) s47) < s58.length, fun ρ w v => vI s57 = v, fun ρ w v => vv5 = v, fun ρ w v => vI s47 = v, fun ρ w v => ∃ ad61, .pointer (some (ad61.add (s47.toNat * 1))) = v ∧ (gl 0 ((s19.set s18.toNat (gl 0 s19 (w64 (s18 + x30)))).set (w64 (s18 + x30)).toNat (gl 0 s19 s18)) s47) < s58.length ∧ Ce ρ w 1 vv5 (((s19.set s18.toNat (gl 0 s19 (w64 (s18 + x30)))).set (w64 (s18 + x30)).toNat (gl 0 s19 s18)).length) ad61 (s47.toNat * 1) ([(f6 (gl 0 ((s19.set s18.toNat (gl 0 s19 (w64 (s18 + x30)))).set (w64 (s18 + x30)).toNat (gl 0 s19 s18)) s47)).1]), fun ρ w v => (f6 (gl 0 ((s19.set s18.toNat (gl 0 s19 (w64 (s18 + x30)))).set (w64 (s18 + x30)).toNat (gl 0 s19 s18)) s47)).1 = v ∧ (gl 0 ((s19.set s18.toNat (gl 0 s19 (w64 (s18 + x30)))).set (w64 (s18 + x30)).toNat (gl 0 s19 s18)) s47) < s58.length, fun ρ w v => vI s57 = v, fun ρ w v => ∃ ad63, .pointer (some (ad63.add (s57.toNat * 1))) = v ∧ Ce ρ w (lab 1 (gl 0 ((s19.set s18.toNat (gl 0 s19 (w64 (s18 + x30)))).set (w64 (s18 + x30)).toNat (gl 0 s19 s18)) s47)) ((f6 (gl 0 ((s19.set s18.toNat (gl 0 s19 (w64 (s18 + x30)))).set (w64 (s18 + x30)).toNat (gl 0 s19 s18)) s47)).1) ((s58.getD (gl 0 ((s19.set s18.toNat (gl 0 s19 (w64 (s18 + x30)))).set (w64 (s18 + x30)).toNat (gl 0 s19 s18)) s47) []).length) ad63 (s57.toNat * 1) (fI64.enc (gl 0 (s58.getD (gl 0 ((s19.set s18.toNat (gl 0 s19 (w64 (s18 + x30)))).set (w64 (s18 + x30)).toNat (gl 0 s19 s18)) s47) []) s57)), fun ρ w v => vI (gl 0 (s58.getD (gl 0 ((s19.set s18.toNat (gl 0 s19 (w64 (s18 + x30)))).set (w64 (s18 + x30)).toNat (gl 0 s19 s18)) s47) []) s57) = v, fun ρ w v => vI ((w64 ((gl 0 (s48.getD (gl 0 ((s19.set s18.toNat (gl 0 s19 (w64 (s18 + x30)))).set (w64 (s18 + x30)).toNat (gl 0 s19 s18)) s47) []) s22) * x44)).tmod a0) = v, fun ρ w v => vv5 = v, fun ρ w v => vI s18 = v, fun ρ w v => ∃ ad64, .pointer (some (ad64.add (s18.toNat * 1))) = v ∧ (gl 0 ((s19.set s18.toNat (gl 0 s19 (w64 (s18 + x30)))).set (w64 (s18 + x30)).toNat (gl 0 s19 s18)) s18) < s58.length ∧ Ce ρ w 1 vv5 (((s19.set s18.toNat (gl 0 s19 (w64 (s18 + x30)))).set (w64 (s18 + x30)).toNat (gl 0 s19 s18)).length) ad64 (s18.toNat * 1) ([(f6 (gl 0 ((s19.set s18.toNat (gl 0 s19 (w64 (s18 + x30)))).set (w64 (s18 + x30)).toNat (gl 0 s19 s18)) s18)).1]), fun ρ w v => (f6 (gl 0 ((s19.set s18.toNat (gl 0 s19 (w64 (s18 + x30)))).set (w64 (s18 + x30)).toNat (gl 0 s19 s18)) s18)).1 = v ∧ (gl 0 ((s19.set s18.toNat (gl 0 s19 (w64 (s18 + x30)))).set (w64 (s18 + x30)).toNat (gl 0 s19 s18)) s18) < s58.length, fun ρ w v => vI s57 = v, fun ρ w v => ∃ ad66, .pointer (some (ad66.add (s57.toNat * 1))) = v ∧ Ce ρ w (lab 1 (gl 0 ((s19.set s18.toNat (gl 0 s19 (w64 (s18 + x30)))).set (w64 (s18 + x30)).toNat (gl 0 s19 s18)) s18)) ((f6 (gl 0 ((s19.set s18.toNat (gl 0 s19 (w64 (s18 + x30)))).set (w64 (s18 + x30)).toNat (gl 0 s19 s18)) s18)).1) ((s58.getD (gl 0 ((s19.set s18.toNat (gl 0 s19 (w64 (s18 + x30)))).set (w64 (s18 + x30)).toNat (gl 0 s19 s18)) s18) []).length) ad66 (s57.toNat * 1) (fI64.enc (gl 0 (s58.getD (gl 0 ((s19.set s18.toNat (gl 0 s19 (w64 (s18 + x30)))).set (w64 (s18 + x30)).toNat (gl 0 s19 s18)) s18) []) s57)), fun ρ w v => vI (gl 0 (s58.getD (gl 0 ((s19.set s18.toNat (gl 0 s19 (w64 (s18 + x30)))).set (w64 (s18 + x30)).toNat (gl 0 s19 s18)) s18) []) s57) = v, fun ρ w v => vI (w64 (((w64 ((gl 0 (s48.getD (gl 0 ((s19.set s18.toNat (gl 0 s19 (w64 (s18 + x30)))).set (w64 (s18 + x30)).toNat (gl 0 s19 s18)) s47) []) s22) * x44)).tmod a0) * (gl 0 (s58.getD (gl 0 ((s19.set s18.toNat (gl 0 s19 (w64 (s18 + x30)))).set (w64 (s18 + x30)).toNat (gl 0 s19 s18)) s18) []) s57))) = v, fun ρ w v => vI (w64 ((gl 0 (s58.getD (gl 0 ((s19.set s18.toNat (gl 0 s19 (w64 (s18 + x30)))).set (w64 (s18 + x30)).toNat (gl 0 s19 s18)) s47) []) s57) - (w64 (((w64 ((gl 0 (s48.getD (gl 0 ((s19.set s18.toNat (gl 0 s19 (w64 (s18 + x30)))).set (w64 (s18 + x30)).toNat (gl 0 s19 s18)) s47) []) s22) * x44)).tmod a0) * (gl 0 (s58.getD (gl 0 ((s19.set s18.toNat (gl 0 s19 (w64 (s18 + x30)))).set (w64 (s18 + x30)).toNat (gl 0 s19 s18)) s18) []) s57))))) = v, fun ρ w v => vI a0 = v, fun ρ w v => vI ((w64 ((gl 0 (s58.getD (gl 0 ((s19.set s18.toNat (gl 0 s19 (w64 (s18 + x30)))).set (w64 (s18 + x30)).toNat (gl 0 s19 s18)) s47) []) s57) - (w64 (((w64 ((gl 0 (s48.getD (gl 0 ((s19.set s18.toNat (gl 0 s19 (w64 (s18 + x30)))).set (w64 (s18 + x30)).toNat (gl 0 s19 s18)) s47) []) s22) * x44)).tmod a0) * (gl 0 (s58.getD (gl 0 ((s19.set s18.toNat (gl 0 s19 (w64 (s18 + x30)))).set (w64 (s18 + x30)).toNat (gl 0 s19 s18)) s18) []) s57))))).tmod a0) = v, fun ρ w v => vI a0 = v, fun ρ w v => vI (w64 (((w64 ((gl 0 (s58.getD (gl 0 ((s19.set s18.toNat (gl 0 s19 (w64 (s18 + x30)))).set (w64 (s18 + x30)).toNat (gl 0 s19 s18)) s47) []) s57) - (w64 (((w64 ((gl 0 (s48.getD (gl 0 ((s19.set s18.toNat (gl 0 s19 (w64 (s18 + x30)))).set (w64 (s18 + x30)).toNat (gl 0 s19 s18)) s47) []) s22) * x44)).tmod a0) * (gl 0 (s58.getD (gl 0 ((s19.set s18.toNat (gl 0 s19 (w64 (s18 + x30)))).set (w64 (s18 + x30)).toNat (gl 0 s19 s18)) s18) []) s57))))).tmod a0) + a0)) = v, fun ρ w v => vI a0 = v, fun ρ w v => vI ((w64 (((w64 ((gl 0 (s58.getD (gl 0 ((s19.set s18.toNat (gl 0 s19 (w64 (s18 + x30)))).set (w64 (s18 + x30)).toNat (gl 0 s19 s18)) s47) []) s57) - (w64 (((w64 ((gl 0 (s48.getD (gl 0 ((s19.set s18.toNat (gl 0 s19 (w64 (s18 + x30)))).set (w64 (s18 + x30)).toNat (gl 0 s19 s18)) s47) []) s22) * x44)).tmod a0) * (gl 0 (s58.getD (gl 0 ((s19.set s18.toNat (gl 0 s19 (w64 (s18 + x30)))).set (w64 (s18 + x30)).toNat (gl 0 s19 s18)) s18) []) s57))))).tmod a0) + a0)).tmod a0) = v] ?_ hw ⟨o1, o5⟩ hf ?_ ?_
        · intro ρ w ρ' w' hE hG
          obtain ⟨o1, o5⟩ := hG
          exact ⟨o1.ext hE, o5.ext hE⟩
        · exact LastsL.cons (fun _ _ _ _ _ _ h => h) <| LastsL.cons (fun _ _ _ _ _ _ h => h) <| LastsL.cons (fun _ _ _ _ _ hE h => by obtain ⟨ad60, h, hn60, hl60⟩ := h; exact ⟨_, h, hn60, hl60.ext hE⟩) <| LastsL.cons (fun _ _ _ _ _ hE h => by obtain ⟨h, hn60⟩ := h; exact ⟨h, hn60⟩) <| LastsL.cons (fun _ _ _ _ _ _ h => h) <| LastsL.cons (fun _ _ _ _ _ _ h => h) <| LastsL.cons (fun _ _ _ _ _ _ h => h) <| LastsL.cons (fun _ _ _ _ _ hE h => by obtain ⟨ad61, h, hn61, hl61⟩ := h; exact ⟨_, h, hn61, hl61.ext hE⟩) <| LastsL.cons (fun _ _ _ _ _ hE h => by obtain ⟨h, hn61⟩ := h; exact ⟨h, hn61⟩) <| LastsL.cons (fun _ _ _ _ _ _ h => h) <| LastsL.cons (fun _ _ _ _ _ hE h => by obtain ⟨ad63, h, hl63⟩ := h; exact ⟨_, h, hl63.ext hE⟩) <| LastsL.cons (fun _ _ _ _ _ _ h => h) <| LastsL.cons (fun _ _ _ _ _ _ h => h) <| LastsL.cons (fun _ _ _ _ _ _ h => h) <| LastsL.cons (fun _ _ _ _ _ _ h => h) <| LastsL.cons (fun _ _ _ _ _ hE h => by obtain ⟨ad64, h, hn64, hl64⟩ := h; exact ⟨_, h, hn64, hl64.ext hE⟩) <| LastsL.cons (fun _ _ _ _ _ hE h => by obtain ⟨h, hn64⟩ := h; exact ⟨h, hn64⟩) <| LastsL.cons (fun _ _ _ _ _ _ h => h) <| LastsL.cons (fun _ _ _ _ _ hE h => by obtain ⟨ad66, h, hl66⟩ := h; exact ⟨_, h, hl66.ext hE⟩) <| LastsL.cons (fun _ _ _ _ _ _ h => h) <| LastsL.cons (fun _ _ _ _ _ _ h => h) <| LastsL.cons (fun _ _ _ _ _ _ h => h) <| LastsL.cons (fun _ _ _ _ _ _ h => h) <| LastsL.cons (fun _ _ _ _ _ _ h => h) <| LastsL.cons (fun _ _ _ _ _ _ h => h) <| LastsL.cons (fun _ _ _ _ _ _ h => h) <| LastsL.cons (fun _ _ _ _ _ _ h => h) <| LastsL.cons (fun _ _ _ _ _ _ h => h) <| LastsL.nil
        · refine StepsB.cons ?_ <| StepsB.cons ?_ <| StepsB.cons ?_ <| StepsB.cons ?_ <| StepsB.cons ?_ <| StepsB.cons ?_ <| StepsB.cons ?_ <| StepsB.cons ?_ <| StepsB.cons ?_ <| StepsB.cons ?_ <| StepsB.cons ?_ <| StepsB.cons ?_ <| StepsB.cons ?_ <| StepsB.cons ?_ <| StepsB.cons ?_ <| StepsB.cons ?_ <| StepsB.cons ?_ <| StepsB.cons ?_ <| StepsB.cons ?_ <| StepsB.cons ?_ <| StepsB.cons ?_ <| StepsB.cons ?_ <| StepsB.cons ?_ <| StepsB.cons ?_ <| StepsB.cons ?_ <| StepsB.cons ?_ <| StepsB.cons ?_ <| StepsB.cons ?_ <| StepsB.nil
          · intro ρ w a hw hG hf hd K hK
            obtain ⟨o1, o5⟩ := hG
            exact dv_ hK hw (wn rfl) (r_move hf rfl) rfl
          · intro ρ w a hw hG hf hd K hK
            obtain ⟨o1, o5⟩ := hG
            exact dv_ hK hw (wn rfl) (r_move hf rfl) rfl
          · intro ρ w a hw hG hf hd K hK
            obtain ⟨o1, o5⟩ := hG
            obtain ⟨_, hf, rfl⟩ := got (hd 0 (by kernel_rfl)) hf
            obtain ⟨_, hf, rfl⟩ := got (hd 1 (by kernel_rfl)) hf
            obtain ⟨ad60, hl60⟩ := Ow.ce (d := fRef f6) o1.out 0 hc50.1 hc50.2
            have hn60 := o1.lt_gl hc50.1 hc50.2
            exact dv_ hK hw (wn rfl) (r_idx Try.underlying24 sz36 hf rfl hl60.at_ rfl hc50.1 hc50.2) (ex_ <| an_ rfl <| an_ hn60 <| hl60)
          · intro ρ w a hw hG hf hd K hK
            obtain ⟨o1, o5⟩ := hG
            obtain ⟨_, hf, ⟨ad60, rfl, hn60, hl60⟩⟩ := got (hd 2 (by kernel_rfl)) hf
            exact dv_ hK hw (wn rfl) (r_load_cell ty36 hf rfl hl60.co.cl) (an_ rfl <| hn60)
          · intro ρ w a hw hG hf hd K hK
            obtain ⟨o1, o5⟩ := hG
            exact dv_ hK hw (wn rfl) (r_move hf rfl) rfl
          · intro ρ w a hw hG hf hd K hK
            obtain ⟨o1, o5⟩ := hG
            exact dv_ hK hw (wn rfl) (r_move hf rfl) rfl
          · intro ρ w a hw hG hf hd K hK
            obtain ⟨o1, o5⟩ := hG
            exact dv_ hK hw (wn rfl) (r_move hf rfl) rfl
          · intro ρ w a hw hG hf hd K hK
            obtain ⟨o1, o5⟩ := hG
            obtain ⟨_, hf, rfl⟩ := got (hd 5 (by kernel_rfl)) hf
            obtain ⟨_, hf, rfl⟩ := got (hd 6 (by kernel_rfl)) hf
            obtain ⟨ad61, hl61⟩ := Ow.ce (d := fRef f6) o1.out 0 hc50.1 hc50.2
            have hn61 := o1.lt_gl hc50.1 hc50.2
            exact dv_ hK hw (wn rfl) (r_idx Try.underlying24 sz36 hf rfl hl61.at_ rfl hc50.1 hc50.2) (ex_ <| an_ rfl <| an_ hn61 <| hl61)
          · intro ρ w a hw hG hf hd K hK
            obtain ⟨o1, o5⟩ := hG
            obtain ⟨_, hf, ⟨ad61, rfl, hn61, hl61⟩⟩ := got (hd 7 (by kernel_rfl)) hf
            exact dv_ hK hw (wn rfl) (r_load_cell ty36 hf rfl hl61.co.cl) (an_ rfl <| hn61)
          · intro ρ w a hw hG hf hd K hK
            obtain ⟨o1, o5⟩ := hG
            exact dv_ hK hw (wn rfl) (r_move hf rfl) rfl
          · intro ρ w a hw hG hf hd K hK
            obtain ⟨o1, o5⟩ := hG
            obtain ⟨_, hf, ⟨rfl, hn61⟩⟩ := got (hd 8 (by kernel_rfl)) hf
            obtain ⟨_, hf, rfl⟩ := got (hd 9 (by kernel_rfl)) hf
            obtain ⟨ad63, hl63⟩ := Ow.ce (d := fI64) (o1.rowAt hn61) 0 hc62.1 hc62.2
            exact dv_ hK hw (wn rfl) (r_idx Try.underlying36 sz2 hf rfl hl63.at_ rfl hc62.1 hc62.2) (ex_ <| an_ rfl <| hl63)
          · intro ρ w a hw hG hf hd K hK
            obtain ⟨o1, o5⟩ := hG
            obtain ⟨_, hf, ⟨ad63, rfl, hl63⟩⟩ := got (hd 10 (by kernel_rfl)) hf
            exact dv_ hK hw (wn rfl) (r_load_cell ty2 hf rfl hl63.co.cl) rfl
          · intro ρ w a hw hG hf hd K hK
            obtain ⟨o1, o5⟩ := hG
            exact dv_ hK hw (wn rfl) (r_move hf rfl) rfl
          · intro ρ w a hw hG hf hd K hK
            obtain ⟨o1, o5⟩ := hG
            exact dv_ hK hw (wn rfl) (r_move hf rfl) rfl
          · intro ρ w a hw hG hf hd K hK
            obtain ⟨o1, o5⟩ := hG
            exact dv_ hK hw (wn rfl) (r_move hf rfl) rfl
          · intro ρ w a hw hG hf hd K hK
            obtain ⟨o1, o5⟩ := hG
            obtain ⟨_, hf, rfl⟩ := got (hd 13 (by kernel_rfl)) hf
            obtain ⟨_, hf, rfl⟩ := got (hd 14 (by kernel_rfl)) hf
            obtain ⟨ad64, hl64⟩ := Ow.ce (d := fRef f6) o1.out 0 hc40.1 hc40.2
            have hn64 := o1.lt_gl hc40.1 hc40.2
            exact dv_ hK hw (wn rfl) (r_idx Try.underlying24 sz36 hf rfl hl64.at_ rfl hc40.1 hc40.2) (ex_ <| an_ rfl <| an_ hn64 <| hl64)
          · intro ρ w a hw hG hf hd K hK
            obtain ⟨o1, o5⟩ := hG
            obtain ⟨_, hf, ⟨ad64, rfl, hn64, hl64⟩⟩ := got (hd 15 (by kernel_rfl)) hf
            exact dv_ hK hw (wn rfl) (r_load_cell ty36 hf rfl hl64.co.cl) (an_ rfl <| hn64)
          · intro ρ w a hw hG hf hd K hK
            obtain ⟨o1, o5⟩ := hG
            exact dv_ hK hw (wn rfl) (r_move hf rfl) rfl
          · intro ρ w a hw hG hf hd K hK
            obtain ⟨o1, o5⟩ := hG
            obtain ⟨_, hf, ⟨rfl, hn64⟩⟩ := got (hd 16 (by kernel_rfl)) hf
            obtain ⟨_, hf, rfl⟩ := got (hd 17 (by kernel_rfl)) hf
            obtain ⟨ad66, hl66⟩ := Ow.ce (d := fI64) (o1.rowAt hn64) 0 hc65.1 hc65.2
            exact dv_ hK hw (wn rfl) (r_idx Try.underlying36 sz2 hf rfl hl66.at_ rfl hc65.1 hc65.2) (ex_ <| an_ rfl <| hl66)
          · intro ρ w a hw hG hf hd K hK
            obtain ⟨o1, o5⟩ := hG
            obtain ⟨_, hf, ⟨ad66, rfl, hl66⟩⟩ := got (hd 18 (by kernel_rfl)) hf
            exact dv_ hK hw (wn rfl) (r_load_cell ty2 hf rfl hl66.co.cl) rfl
          · intro ρ w a hw hG hf hd K hK
            obtain ⟨o1, o5⟩ := hG
            obtain ⟨_, hf, rfl⟩ := got (hd 12 (by kernel_rfl)) hf
            obtain ⟨_, hf, rfl⟩ := got (hd 19 (by kernel_rfl)) hf
            exact dv_ hK hw (wn rfl) (r_mul hf rfl rfl) rfl
          · intro ρ w a hw hG hf hd K hK
            obtain ⟨o1, o5⟩ := hG
            obtain ⟨_, hf, rfl⟩ := got (hd 11 (by kernel_rfl)) hf
            obtain ⟨_, hf, rfl⟩ := got (hd 20 (by kernel_rfl)) hf
            exact dv_ hK hw (wn rfl) (r_sub hf rfl rfl) rfl
          · intro ρ w a hw hG hf hd K hK
            obtain ⟨o1, o5⟩ := hG
            exact dv_ hK hw (wn rfl) (r_move hf rfl) rfl
          · intro ρ w a hw hG hf hd K hK
            obtain ⟨o1, o5⟩ := hG
            obtain ⟨_, hf, rfl⟩ := got (hd 21 (by kernel_rfl)) hf
            obtain ⟨_, hf, rfl⟩ := got (hd 22 (by kernel_rfl)) hf
            exact dv_ hK hw (wn rfl) (r_rem hf rfl rfl hc54) rfl
          · intro ρ w a hw hG hf hd K hK
            obtain ⟨o1, o5⟩ := hG
            exact dv_ hK hw (wn rfl) (r_move hf rfl) rfl
          · intro ρ w a hw hG hf hd K hK
            obtain ⟨o1, o5⟩ := hG
            obtain ⟨_, hf, rfl⟩ := got (hd 23 (by kernel_rfl)) hf
            obtain ⟨_, hf, rfl⟩ := got (hd 24 (by kernel_rfl)) hf
            exact dv_ hK hw (wn rfl) (r_add hf rfl rfl) rfl
          · intro ρ w a hw hG hf hd K hK
            obtain ⟨o1, o5⟩ := hG
            exact dv_ hK hw (wn rfl) (r_move hf rfl) rfl
          · intro ρ w a hw hG hf hd K hK
            obtain ⟨o1, o5⟩ := hG
            obtain ⟨_, hf, rfl⟩ := got (hd 25 (by kernel_rfl)) hf
            obtain ⟨_, hf, rfl⟩ := got (hd 26 (by kernel_rfl)) hf
            exact dv_ hK hw (wn rfl) (r_rem hf rfl rfl hc54) rfl
        intro ρ w a hw hG hf hd
        obtain ⟨o1, o5⟩ := hG
        obtain ⟨_, hf, ⟨rfl, hn60⟩⟩ := got (hd 3 (by decide)) hf
        obtain ⟨_, hf, rfl⟩ := got (hd 4 (by decide)) hf
        obtain ⟨_, hf, rfl⟩ := got (hd 27 (by decide)) hf
        obtain ⟨ad67, hl67⟩ := Ow.ce (d := fI64) (o1.rowAt hn60) 0 hc62.1 hc62.2
        refine s_ hf (r_idx Try.underlying36 sz2 hf rfl hl67.at_ rfl hc62.1 hc62.2) fun a hf => ?_
        refine sk_ hf (r_gcell (p := s57) (b := (w64 (((w64 ((gl 0 (s58.getD (gl 0 ((s19.set s18.toNat (gl 0 s19 (w64 (s18 + x30)))).set (w64 (s18 + x30)).toNat (gl 0 s19 s18)) s47) []) s57) - (w64 (((w64 ((gl 0 (s48.getD (gl 0 ((s19.set s18.toNat (gl 0 s19 (w64 (s18 + x30)))).set (w64 (s18 + x30)).toNat (gl 0 s19 s18)) s47) []) s22) * x44)).tmod a0) * (gl 0 (s58.getD (gl 0 ((s19.set s18.toNat (gl 0 s19 (w64 (s18 + x30)))).set (w64 (s18 + x30)).toNat (gl 0 s19 s18)) s18) []) s57))))).tmod a0) + a0)).tmod a0) 0 hw o1 hc62.1 hc62.2 (Lens.id _) hl67.at_ ty2 (by first | rfl | exact Nat.add_assoc _ _ _ | (simp only [Nat.add_assoc]; rfl)) hf rfl rfl rfl) fun a w hf hΦ => ?_
        obtain ⟨hw, hA, o1⟩ := hΦ
        replace o5 := o5.adv hA (by unfold lab; omega)
        replace hn60 : (gl 0 ((s19.set s18.toNat (gl 0 s19 (w64 (s18 + x30)))).set (w64 (s18 + x30)).toNat (gl 0 s19 s18)) s47) < (s58.set (gl 0 ((s19.set s18.toNat (gl 0 s19 (w64 (s18 + x30)))).set (w64 (s18 + x30)).toNat (gl 0 s19 s18)) s47) ((s58.getD (gl 0 ((s19.set s18.toNat (gl 0 s19 (w64 (s18 + x30)))).set (w64 (s18 + x30)).toNat (gl 0 s19 s18)) s47) []).set s57.toNat ((w64 (((w64 ((gl 0 (s58.getD (gl 0 ((s19.set s18.toNat (gl 0 s19 (w64 (s18 + x30)))).set (w64 (s18 + x30)).toNat (gl 0 s19 s18)) s47) []) s57) - (w64 (((w64 ((gl 0 (s48.getD (gl 0 ((s19.set s18.toNat (gl 0 s19 (w64 (s18 + x30)))).set (w64 (s18 + x30)).toNat (gl 0 s19 s18)) s47) []) s22) * x44)).tmod a0) * (gl 0 (s58.getD (gl 0 ((s19.set s18.toNat (gl 0 s19 (w64 (s18 + x30)))).set (w64 (s18 + x30)).toNat (gl 0 s19 s18)) s18) []) s57))))).tmod a0) + a0)).tmod a0))).length := Nat.lt_of_lt_of_le hn60 (by simp only [List.length_append, List.length_set] <;> omega)
        refine c_nil <| n_block <| n_then <| c_region ?_
        refine s_ hf (r_add hf rfl rfl) fun a hf => ?_
        refine s_ hf (r_move hf rfl) fun a hf => ?_
        refine c_nil ?_
        obtain rfl := Option.some.inj hF
        exact Rnd.goes ⟨_, hw, hf.sub ⟨rfl, rfl, rfl, rfl, rfl, rfl, rfl, rfl, rfl, trivial⟩, o1, o5⟩
      rintro ⟨s57, s58⟩ a w hs ⟨ρ, hw, hf, o1, o5⟩
      subst hs
      have hF := hG56
      dsimp only at hF
      refine x_block <| n_block <| n_then <| c_region ?_
      refine s_ hf (r_move hf rfl) fun a hf => ?_
      refine s_ hf (r_add hf rfl rfl) fun a hf => ?_
      refine s_ hf (r_assign hf rfl) fun a hf => ?_
      refine c_nil ?_
      obtain rfl := Option.some.inj hF
      exact Rnd.goes ⟨_, hw, hf.sub ⟨rfl, rfl, rfl, rfl, rfl, rfl, trivial⟩, o1, o5⟩
    rintro ⟨s47, s48⟩ a w hs ⟨ρ, hw, hf, o1, o5⟩
    subst hs
    have hF := hG46
    dsimp only at hF
    refine x_block <| n_then <| c_region ?_
    refine s_ hf (r_move hf rfl) fun a hf => ?_
    refine s_ hf (r_add hf rfl rfl) fun a hf => ?_
    refine s_ hf (r_assign hf rfl) fun a hf => ?_
    refine c_nil <| n_block <| n_then <| c_seq <| c_seq <| c_region ?_
    refine s_ hf (r_load_cell ty3 hf rfl o5.cl) fun a hf => ?_
    refine c_nt <| c_region ?_
    refine sx_ hf (r_alloc (cs := [vI 0]) 37 ze3 rfl hw) fun a v w hf hΦ => ?_
    obtain ⟨g37, ρ, rfl, hw, hE, o37⟩ := hΦ
    replace o1 := o1.ext hE
    replace o5 := o5.ext hE
    refine sk_ hf (r_store_w (cs' := [vI s22]) hw o37 (by decide) ty3 rfl rfl (one_one rfl) hf rfl rfl rfl) fun a w hf hΦ => ?_
    obtain ⟨hw, hA, o37⟩ := hΦ
    replace o1 := o1.adv hA (by decide) (fun _ => by unfold lab; omega)
    replace o5 := o5.adv hA (by decide)
    refine c_nt <| c_region ?_
    refine s_ hf (r_load_cell ty3 hf rfl o37.cl) fun a hf => ?_
    refine s_ hf (r_add hf rfl rfl) fun a hf => ?_
    refine sk_ hf (r_store_w (cs' := [vI (w64 (s22 + 1))]) hw o37 (by decide) ty3 rfl rfl (one_one rfl) hf rfl rfl rfl) fun a w hf hΦ => ?_
    obtain ⟨hw, hA, o37⟩ := hΦ
    replace o1 := o1.adv hA (by decide) (fun _ => by unfold lab; omega)
    replace o5 := o5.adv hA (by decide)
    refine c_nil ?_
    obtain rfl := Option.some.inj hF
    replace o1 := o1.tr (Tr.relab (j := 37) (b := 5) (by decide)) (fun _ => Tr.relab (by unfold lab; omega))
    replace o37 := o37.relab 5
    replace hw := hw.relab (j := 37) (by decide) 5
    exact Rnd.goes ⟨_, _, hw, hf.sub ⟨rfl, rfl, rfl, rfl, trivial⟩, o1, o37⟩
  rintro ⟨s18, s19, s20, s22⟩ a w hs ⟨ρ, hw, hf⟩
  subst hs
  have hF := hG17
  dsimp only at hF
  refine x_block <| n_then <| c_seq <| c_region ?_
  refine s_ hf (r_move hf rfl) fun a hf => ?_
  refine s_ hf (r_assign hf rfl) fun a hf => ?_
  refine c_nt <| c_retc ?_
  obtain rfl := Option.some.inj hF
  refine c_ret hf (res_tmp Try.results106 hf rfl) ?_
  exact ⟨_, rfl, hw.below, rfl⟩
/-! f150snil -/
noncomputable def slices_Grow_150_fnil (a1 : Int) : Option (List Int) :=
  if (decide (a1 < 0)) = true then (none) else (if (decide (0 < (w64 (a1 - (w64 (0 - (([] : List Int).length : Int))))))) = true then (if 0 < w64 (a1 - (w64 (0 - (([] : List Int).length : Int)))) ∧ (w64 (a1 - (w64 (0 - (([] : List Int).length : Int))))).toNat * 8 ≤ 140737488355328 then (if (0 : Int) ≤ (([] : List Int).length : Int) ∧ (([] : List Int).length : Int) ≤ ((List.replicate (w64 (a1 - (w64 (0 - (([] : List Int).length : Int))))).toNat (0 : Int)).length : Int) then (some (((List.replicate (w64 (a1 - (w64 (0 - (([] : List Int).length : Int))))).toNat (0 : Int)).take (([] : List Int).length : Int).toNat))) else none) else none) else (some (([] : List Int))))
theorem slices_Grow_150_fnil_ok {w0 : World} {a1 : Int}   {r : List Int} (hF : slices_Grow_150_fnil a1 = some r) :
    Calls Try.prog 150 [.slice none 0 0, vI a1].toArray w0 fun e w => ∃ v, e = .returned v ∧ Below w0.heap.size w0 w ∧ ∃ u0, u0 = v ∧ Fresh (kf fI64) 2 w0 w u0 r := by
  refine calls_of (k := 27) Try.func150 rfl rfl (Nat.le_of_ble_eq_true rfl) fun a hf => ?_
  replace hf : Fr 27 a [(0, (.slice none 0 0)), (1, vI a1)] := hf
  refine c_start fun w ρ hw => ?_
  unfold slices_Grow_150_fnil at hF
  have o1 : O2 ρ w w0 1 (.slice none 0 0) [] := Ow.nil _ _ _ _ _ _
  refine c_seq <| c_region ?_
  have o2 : Ow (kf fI64) 2 ρ w w0.heap.size 2 (.slice none 0 0) [] := Ow.nil _ _ _ _ _ _
  refine s_ hf (r_assign hf rfl) fun a hf => ?_
  refine c_nt <| c_seq <| c_seq <| c_region ?_
  refine s_ hf (r_move hf rfl) fun a hf => ?_
  refine s_ hf (r_lss hf rfl rfl) fun a hf => ?_
  refine c_nt ?_
  rcases of_ite hF with ⟨hb1, hF⟩ | ⟨hb1, hF⟩
  · refine c_ift hf rfl hb1 <| c_region ?_
    cases hF
  refine c_iff hf rfl hb1 <| c_skip <| n_then <| c_seq <| c_seq <| c_region ?_
  refine s_ hf (r_move hf rfl) fun a hf => ?_
  refine s_ hf (r_move hf rfl) fun a hf => ?_
  refine s_ hf (r_cap0 Try.underlying36 hf rfl) fun a hf => ?_
  refine s_ hf (r_move hf rfl) fun a hf => ?_
  refine s_ hf (r_len Try.underlying36 o1.ro hf rfl) fun a hf => ?_
  refine s_ hf (r_sub hf rfl rfl) fun a hf => ?_
  refine s_ hf (r_sub hf rfl rfl) fun a hf => ?_
  refine s_ hf (r_assign hf rfl) fun a hf => ?_
  refine c_nt <| c_seq <| c_region ?_
  refine s_ hf (r_move hf rfl) fun a hf => ?_
  refine s_ hf (r_gtr hf rfl rfl) fun a hf => ?_
  refine c_nt ?_
  rcases of_ite hF with ⟨hb2, hF⟩ | ⟨hb2, hF⟩
  rotate_left
  · refine c_iff hf rfl hb2 <| c_skip <| n_then <| c_seq <| c_region ?_
    refine s_ hf (r_move hf rfl) fun a hf => ?_
    refine s_ hf (r_assign hf rfl) fun a hf => ?_
    refine c_nt <| c_retc ?_
    obtain rfl := Option.some.inj hF
    refine c_ret hf (res_tmp Try.results150 hf rfl) ?_
    exact ⟨_, rfl, hw.below, ⟨_, rfl, o1.out⟩⟩
  refine c_ift hf rfl hb2 <| c_region ?_
  refine s_ hf (r_move hf rfl) fun a hf => ?_
  refine s_ hf (r_move hf rfl) fun a hf => ?_
  refine s_ hf (r_cap0 Try.underlying36 hf rfl) fun a hf => ?_
  have o3 : Ow (kf fI64) 2 ρ w w0.heap.size 3 (.slice none 0 0) [] := Ow.nil _ _ _ _ _ _
  refine s_ hf (r_cut_nil Try.underlying36 sz2 hf rfl rfl) fun a hf => ?_
  refine s_ hf (r_move hf rfl) fun a hf => ?_
  obtain ⟨hc3, hF⟩ := of_guard hF
  refine sx_ hf (r_app_mk (d := fI64) (z0 := 0) 4 Try.underlying36 Try.underlying3 el2 rfl hw hf rfl rfl hc3.1 hc3.2) fun a v4 w hf hΦ => ?_
  obtain ⟨ρ, hw, hE, o4⟩ := hΦ
  replace o1 := o1.ext hE
  replace o2 := o2.ext hE
  replace o3 := o3.ext hE
  refine s_ hf (r_move hf rfl) fun a hf => ?_
  refine s_ hf (r_len Try.underlying36 o1.ro hf rfl) fun a hf => ?_
  obtain ⟨hc4, hF⟩ := of_guard hF
  refine s_ hf (r_cut_v (lo := 0) (hi := (([] : List Int).length : Int)) Try.underlying36 sz2 rfl o4.ro hf rfl (.inl ⟨rfl, rfl⟩) (.inr ⟨_, rfl, rfl⟩) (Int.le_refl 0) hc4.1 hc4.2) fun a hf => ?_
  replace o4 : Ow (kf fI64) 2 ρ w w0.heap.size 4 (cutV v4 0 (([] : List Int).length : Int).toNat 1) ((List.replicate (w64 (a1 - (w64 (0 - (([] : List Int).length : Int))))).toNat (0 : Int)).take (([] : List Int).length : Int).toNat) := Ow.take o4 (Int.le_trans (Int.le_refl 0) hc4.1) hc4.2 1
  refine s_ hf (r_assign hf rfl) fun a hf => ?_
  refine c_nt <| c_seq <| c_region ?_
  refine s_ hf (r_move hf rfl) fun a hf => ?_
  refine s_ hf (r_assign hf rfl) fun a hf => ?_
  refine c_nt <| c_retc ?_
  obtain rfl := Option.some.inj hF
  refine c_ret hf (res_tmp Try.results150 hf rfl) ?_
  exact ⟨_, rfl, hw.below, ⟨_, rfl, o4.out⟩⟩
/-! f107 -/
noncomputable def slices_Concat_107_l1 (a0 : List (List Int)) (s2 : Int) (s3 : Int) : Option (LR (Int × Int) (List Int)) :=
  if (decide (s3 < (a0.length : Int))) = true then (if 0 ≤ s3 ∧ s3 < (a0.length : Int) then (if (decide ((w64 (s2 + ((gl [] a0 s3).length : Int))) < 0)) = true then (none) else (some (.next (w64 (s2 + ((gl [] a0 s3).length : Int)), w64 (s3 + 1))))) else none) else (some (.stop (s2, s3)))
noncomputable def slices_Concat_107_l12 (a0 : List (List Int)) (s13 : Int) (s14 : List Int) : Option (LR (Int × (List Int)) (List Int)) :=
  if (decide (s13 < (a0.length : Int))) = true then (if 0 ≤ s13 ∧ s13 < (a0.length : Int) then (if (s14.length + (gl [] a0 s13).length) * 8 ≤ 140737488355328 then (some (.next (w64 (s13 + 1), (s14 ++ gl [] a0 s13)))) else none) else none) else (some (.stop (s13, s14)))
noncomputable def slices_Concat_107 (a0 : List (List Int)) : Option (List Int) :=
  (iter (fun s => slices_Concat_107_l1 a0 s.1 s.2) (0, 0)).bind fun o => match o with | .stop (s2, s3) => ((slices_Grow_150_fnil s2).bind fun x8 => (iter (fun s => slices_Concat_107_l12 a0 s.1 s.2) (0, x8)).bind fun o => match o with | .stop (s13, s14) => (some (s14)) | .ret r => some r | .next _ => none) | .ret r => some r | .next _ => none
theorem slices_Concat_107_ok {w0 : World} {a0 : List (List Int)} {va0 : Value} (h0 : Ro (Kd.slice 2 (kf fI64)) w0 va0 a0) {r : List Int} (hF : slices_Concat_107 a0 = some r) :
    Calls Try.prog 107 [va0].toArray w0 fun e w => ∃ v, e = .returned v ∧ Below w0.heap.size w0 w ∧ ∃ u0, u0 = v ∧ Fresh (kf fI64) 2 w0 w u0 r := by
  refine calls_of (k := 36) Try.func107 rfl rfl (Nat.le_of_ble_eq_true rfl) fun a hf => ?_
  replace hf : Fr 36 a [(0, va0)] := hf
  refine c_start fun w ρ hw => ?_
  unfold slices_Concat_107 at hF
  refine c_seq <| c_region ?_
  have o1 : Ow (kf fI64) 2 ρ w w0.heap.size 1 (.slice none 0 0) [] := Ow.nil _ _ _ _ _ _
  refine s_ hf (r_assign hf rfl) fun a hf => ?_
  refine c_nt <| c_seq <| c_region ?_
  refine s_ hf (r_assign hf rfl) fun a hf => ?_
  refine c_nt <| c_seq <| c_seq <| c_region ?_
  refine s_ hf (r_move hf rfl) fun a hf => ?_
  refine s_ hf (r_len Try.underlying24 (h0.now hw) hf rfl) fun a hf => ?_
  refine s_ hf (r_move hf rfl) fun a hf => ?_
  refine c_nt ?_
  obtain ⟨ol1, ho1, hG1⟩ := of_bind hF
  clear hF
  refine c_block (c_loop (id := 0) (fun s => slices_Concat_107_l1 a0 s.1 s.2) (fun (s : Int × Int) a w => match s with | (s2, s3) => ∃ ρ, Wd w0 ρ w ∧ Fr 36 a [(0, va0), (3, vI s2), (9, va0), (10, vI (a0.length : Int)), (11, vI s3)]) (fun (s : Int × Int) a w => match s with | (s2, s3) => ∃ ρ, Wd w0 ρ w ∧ Fr 36 a [(0, va0), (3, vI s2)]) ho1 ⟨_, hw, hf.sub ⟨rfl, rfl, rfl, rfl, rfl, trivial⟩⟩ ?_ ?_)
  · rintro ⟨s2, s3⟩ lr a w ⟨ρ, hw, hf⟩ hF
    replace hF : slices_Concat_107_l1 a0 s2 s3 = some lr := hF
    unfold slices_Concat_107_l1 at hF
    refine c_seq <| c_region ?_
    refine s_ hf (r_lss hf rfl rfl) fun a hf => ?_
    refine c_nt <| c_seq ?_
    rcases of_ite hF with ⟨hb4, hF⟩ | ⟨hb4, hF⟩
    rotate_left
    · refine c_iff hf rfl hb4 <| c_exit <| x_then ?_
      obtain rfl := Option.some.inj hF
      exact Rnd.stops ⟨_, hw, hf.sub ⟨rfl, rfl, trivial⟩⟩
    refine c_ift hf rfl hb4 <| c_skip <| n_then <| c_seq <| c_block <| c_seq <| c_region ?_
    obtain ⟨hc5, hF⟩ := of_guard hF
    obtain ⟨ad6, c6, u6, he6, hl6, ho6⟩ := Ro.el_row h0 hc5.1 hc5.2
    refine s_ hf (r_idx Try.underlying24 sz36 hf rfl ⟨_, he6⟩ rfl hc5.1 hc5.2) fun a hf => ?_
    refine s_ hf (r_load_cell ty36 hf rfl (hl6.below hw.below)) fun a hf => ?_
    refine s_ hf (r_assign hf rfl) fun a hf => ?_
    refine c_nt <| c_seq <| c_region ?_
    refine s_ hf (r_move hf rfl) fun a hf => ?_
    refine s_ hf (r_move hf rfl) fun a hf => ?_
    refine s_ hf (r_len Try.underlying36 (ho6.now hw) hf rfl) fun a hf => ?_
    refine s_ hf (r_add hf rfl rfl) fun a hf => ?_
    refine s_ hf (r_assign hf rfl) fun a hf => ?_
    refine c_nt <| c_seq <| c_region ?_
    refine s_ hf (r_move hf rfl) fun a hf => ?_
    refine s_ hf (r_lss hf rfl rfl) fun a hf => ?_
    refine c_nt ?_
    rcases of_ite hF with ⟨hb7, hF⟩ | ⟨hb7, hF⟩
    · refine c_ift hf rfl hb7 <| c_region ?_
      cases hF
    refine c_iff hf rfl hb7 <| c_skip <| n_block <| n_then <| c_region ?_
    refine s_ hf (r_add hf rfl rfl) fun a hf => ?_
    refine s_ hf (r_move hf rfl) fun a hf => ?_
    refine c_nil ?_
    obtain rfl := Option.some.inj hF
    exact Rnd.goes ⟨_, hw, hf.sub ⟨rfl, rfl, rfl, rfl, rfl, trivial⟩⟩
  rintro ⟨s2, s3⟩ a w hs ⟨ρ, hw, hf⟩
  subst hs
  have hF := hG1
  dsimp only at hF
  refine x_block <| n_then <| c_seq <| c_region ?_
  refine s_ hf (r_move hf rfl) fun a hf => ?_
  obtain ⟨x8, hx9, hF⟩ := of_bind hF
  refine st_fn 2 hw hf rfl rfl (by decide) (r_fn en150 hf rfl) (slices_Grow_150_fnil_ok  hx9) fun a v w ρ hf hw hE hN hΦ => ?_
  obtain ⟨u10, rfl, hr11⟩ := hΦ
  have o2 := hN hr11
  refine s_ hf (r_assign hf rfl) fun a hf => ?_
  refine c_nt <| c_seq <| c_seq <| c_region ?_
  refine s_ hf (r_move hf rfl) fun a hf => ?_
  refine s_ hf (r_len Try.underlying24 (h0.now hw) hf rfl) fun a hf => ?_
  refine s_ hf (r_move hf rfl) fun a hf => ?_
  refine c_nt ?_
  obtain ⟨ol12, ho12, hG12⟩ := of_bind hF
  clear hF
  refine c_block (c_loop (id := 2) (fun s => slices_Concat_107_l12 a0 s.1 s.2) (fun (s : Int × (List Int)) a w => match s with | (s13, s14) => ∃ ρ vv15, Wd w0 ρ w ∧ Fr 36 a [(6, vv15), (25, va0), (26, vI (a0.length : Int)), (27, vI s13)] ∧ O2 ρ w w0 2 vv15 s14) (fun (s : Int × (List Int)) a w => match s with | (s13, s14) => ∃ ρ vv15, Wd w0 ρ w ∧ Fr 36 a [(6, vv15)] ∧ O2 ρ w w0 2 vv15 s14) ho12 ⟨_, _, hw, hf.sub ⟨rfl, rfl, rfl, rfl, trivial⟩, o2⟩ ?_ ?_)
  · rintro ⟨s13, s14⟩ lr a w ⟨ρ, vv15, hw, hf, o2⟩ hF
    replace hF : slices_Concat_107_l12 a0 s13 s14 = some lr := hF
    unfold slices_Concat_107_l12 at hF
    refine c_seq <| c_region ?_
    refine s_ hf (r_lss hf rfl rfl) fun a hf => ?_
    refine c_nt <| c_seq ?_
    rcases of_ite hF with ⟨hb16, hF⟩ | ⟨hb16, hF⟩
    rotate_left
    · refine c_iff hf rfl hb16 <| c_exit <| x_then ?_
      obtain rfl := Option.some.inj hF
      exact Rnd.stops ⟨_, _, hw, hf.sub ⟨rfl, trivial⟩, o2⟩
    refine c_ift hf rfl hb16 <| c_skip <| n_then <| c_seq <| c_block <| c_seq <| c_region ?_
    obtain ⟨hc17, hF⟩ := of_guard hF
    obtain ⟨ad18, c18, u18, he18, hl18, ho18⟩ := Ro.el_row h0 hc17.1 hc17.2
    refine s_ hf (r_idx Try.underlying24 sz36 hf rfl ⟨_, he18⟩ rfl hc17.1 hc17.2) fun a hf => ?_
    refine s_ hf (r_load_cell ty36 hf rfl (hl18.below hw.below)) fun a hf => ?_
    refine s_ hf (r_assign hf rfl) fun a hf => ?_
    refine c_nt <| c_region ?_
    refine s_ hf (r_move hf rfl) fun a hf => ?_
    refine s_ hf (r_move hf rfl) fun a hf => ?_
    obtain ⟨hc19, hF⟩ := of_guard hF
    refine sx_ hf (r_append Try.underlying36 el2 hw (by decide) o2 (ho18.now hw) hc19 hf rfl rfl) fun a va20 w hf hΦ => ?_
    obtain ⟨ρ, hw, hA, o2⟩ := hΦ
    refine s_ hf (r_assign hf rfl) fun a hf => ?_
    refine c_nil <| n_block <| n_then <| c_region ?_
    refine s_ hf (r_add hf rfl rfl) fun a hf => ?_
    refine s_ hf (r_move hf rfl) fun a hf => ?_
    refine c_nil ?_
    obtain rfl := Option.some.inj hF
    exact Rnd.goes ⟨_, _, hw, hf.sub ⟨rfl, rfl, rfl, rfl, trivial⟩, o2⟩
  rintro ⟨s13, s14⟩ a w hs ⟨ρ, vv15, hw, hf, o2⟩
  subst hs
  have hF := hG12
  dsimp only at hF
  refine x_block <| n_then <| c_seq <| c_region ?_
  refine s_ hf (r_move hf rfl) fun a hf => ?_
  refine s_ hf (r_assign hf rfl) fun a hf => ?_
  refine c_nt <| c_retc ?_
  obtain rfl := Option.some.inj hF
  refine c_ret hf (res_tmp Try.results107 hf rfl) ?_
  exact ⟨_, rfl, hw.below, ⟨_, rfl, o2.out⟩⟩
/-! f109 -/
noncomputable def impl_inverted_1 (a0 : List Int) (c1 : Int) : Option Bool :=
  if 0 ≤ c1 ∧ c1 < (a0.length : Int) then (some (decide ((gl 0 a0 c1) ≠ 0))) else none
theorem impl_inverted_1_ok {w0 : World} {a0 : List Int} {c1 : Int} {va0 : Value} {gc1 : Nat} (h0 : Ro (kf fI64) w0 va0 a0) (hc1 : Cl w0 ⟨gc1, 0, none⟩ 0 [vI c1]) {r : Bool} (hF : impl_inverted_1 a0 c1 = some r) :
    Calls Try.prog 109 [va0, .pointer (some ((⟨gc1, 0, none⟩ : Addr).add 0))].toArray w0 fun e w => ∃ v, e = .returned v ∧ Below w0.heap.size w0 w ∧ .bool r = v := by
  refine calls_of (k := 9) Try.func109 rfl rfl (Nat.le_of_ble_eq_true rfl) fun a hf => ?_
  replace hf : Fr 9 a [(0, va0), (1, .pointer (some ((⟨gc1, 0, none⟩ : Addr).add 0)))] := hf
  refine c_start fun w ρ hw => ?_
  unfold impl_inverted_1 at hF
  refine c_seq <| c_region ?_
  refine s_ hf (r_assign hf rfl) fun a hf => ?_
  refine c_nt <| c_seq <| c_region ?_
  refine s_ hf (r_move hf rfl) fun a hf => ?_
  refine s_ hf (r_load_cell ty3 hf rfl (hc1.below hw.below)) fun a hf => ?_
  obtain ⟨hc1, hF⟩ := of_guard hF
  obtain ⟨ad2, c2, he2, hl2⟩ := Ro.el fI64 h0 0 hc1.1 hc1.2
  refine s_ hf (r_idx Try.underlying36 sz2 hf rfl ⟨_, he2⟩ rfl hc1.1 hc1.2) fun a hf => ?_
  refine s_ hf (r_load_cell ty2 hf rfl (hl2.below hw.below)) fun a hf => ?_
  refine s_ hf (r_neq hf rfl rfl) fun a hf => ?_
  refine s_ hf (r_assign hf rfl) fun a hf => ?_
  refine c_nt <| c_retc ?_
  obtain rfl := Option.some.inj hF
  refine c_ret hf (res_tmp Try.results109 hf rfl) ?_
  exact ⟨_, rfl, hw.below, rfl⟩
/-! f108s109 -/
noncomputable def slices_IndexFunc_108_f109_l1 (a0 : List (List Int)) (c1_0 : Int) (s2 : Int) : Option (LR Int Int) :=
  if (decide (s2 < (a0.length : Int))) = true then (if 0 ≤ s2 ∧ s2 < (a0.length : Int) then ((impl_inverted_1 (gl [] a0 s2) c1_0).bind fun x6 => if x6 = true then (some (.ret s2)) else (some (.next (w64 (s2 + 1))))) else none) else (some (.stop s2))
noncomputable def slices_IndexFunc_108_f109 (a0 : List (List Int)) (c1_0 : Int) : Option Int :=
  (iter (fun s => slices_IndexFunc_108_f109_l1 a0 c1_0 s) 0).bind fun o => match o with | .stop s2 => (some ((-1))) | .ret r => some r | .next _ => none
theorem slices_IndexFunc_108_f109_ok {w0 : World} {a0 : List (List Int)} {c1_0 : Int} {va0 : Value} {gc1_0 : Nat} (h0 : Ro (Kd.slice 2 (kf fI64)) w0 va0 a0) (hc1_0 : Cl w0 ⟨gc1_0, 0, none⟩ 0 [vI c1_0]) {r : Int} (hF : slices_IndexFunc_108_f109 a0 c1_0 = some r) :
    Calls Try.prog 108 [va0, .func (.func 109) #[] #[.pointer (some ((⟨gc1_0, 0, none⟩ : Addr).add 0))]].toArray w0 fun e w => ∃ v, e = .returned v ∧ Below w0.heap.size w0 w ∧ .int .i64 r = v := by
  refine calls_of (k := 19) Try.func108 rfl rfl (Nat.le_of_ble_eq_true rfl) fun a hf => ?_
  replace hf : Fr 19 a [(0, va0), (1, .func (.func 109) #[] #[.pointer (some ((⟨gc1_0, 0, none⟩ : Addr).add 0))])] := hf
  refine c_start fun w ρ hw => ?_
  unfold slices_IndexFunc_108_f109 at hF
  refine c_seq <| c_region ?_
  refine s_ hf (r_assign hf rfl) fun a hf => ?_
  refine c_nt <| c_seq <| c_seq <| c_region ?_
  refine s_ hf (r_move hf rfl) fun a hf => ?_
  refine s_ hf (r_len Try.underlying24 (h0.now hw) hf rfl) fun a hf => ?_
  refine s_ hf (r_move hf rfl) fun a hf => ?_
  refine c_nt ?_
  obtain ⟨ol1, ho1, hG1⟩ := of_bind hF
  clear hF
  refine c_block (c_loop (id := 0) (fun s => slices_IndexFunc_108_f109_l1 a0 c1_0 s) (fun (s2 : Int) a w => ∃ ρ, Wd w0 ρ w ∧ Fr 19 a [(0, va0), (1, .func (.func 109) #[] #[.pointer (some ((⟨gc1_0, 0, none⟩ : Addr).add 0))]), (7, vI (a0.length : Int)), (8, vI s2)]) (fun (s2 : Int) a w => ∃ ρ, Wd w0 ρ w ∧ Fr 19 a []) ho1 ⟨_, hw, hf.sub ⟨rfl, rfl, rfl, rfl, trivial⟩⟩ ?_ ?_)
  · rintro s2 lr a w ⟨ρ, hw, hf⟩ hF
    replace hF : slices_IndexFunc_108_f109_l1 a0 c1_0 s2 = some lr := hF
    unfold slices_IndexFunc_108_f109_l1 at hF
    refine c_seq <| c_region ?_
    refine s_ hf (r_lss hf rfl rfl) fun a hf => ?_
    refine c_nt <| c_seq ?_
    rcases of_ite hF with ⟨hb3, hF⟩ | ⟨hb3, hF⟩
    rotate_left
    · refine c_iff hf rfl hb3 <| c_exit <| x_then ?_
      obtain rfl := Option.some.inj hF
      exact Rnd.stops ⟨_, hw, hf.sub trivial⟩
    refine c_ift hf rfl hb3 <| c_skip <| n_then <| c_seq <| c_block <| c_seq <| c_region ?_
    refine s_ hf (r_move hf rfl) fun a hf => ?_
    refine s_ hf (r_assign hf rfl) fun a hf => ?_
    refine c_nt <| c_seq <| c_region ?_
    refine s_ hf (r_move hf rfl) fun a hf => ?_
    refine s_ hf (r_move hf rfl) fun a hf => ?_
    refine s_ hf (r_move hf rfl) fun a hf => ?_
    obtain ⟨hc4, hF⟩ := of_guard hF
    obtain ⟨ad5, c5, u5, he5, hl5, ho5⟩ := Ro.el_row h0 hc4.1 hc4.2
    refine s_ hf (r_idx Try.underlying24 sz36 hf rfl ⟨_, he5⟩ rfl hc4.1 hc4.2) fun a hf => ?_
    refine s_ hf (r_load_cell ty36 hf rfl (hl5.below hw.below)) fun a hf => ?_
    obtain ⟨x6, hx7, hF⟩ := of_bind hF
    refine st_fn 1 hw hf rfl rfl (by decide) (r_fnc en109 hf rfl rfl) (impl_inverted_1_ok (ho5.now hw) (hc1_0.below hw.below) hx7) fun a v w ρ hf hw hE hN hΦ => ?_
    obtain rfl := hΦ
    refine c_nt ?_
    rcases of_ite hF with ⟨hb8, hF⟩ | ⟨hb8, hF⟩
    rotate_left
    · refine c_iff hf rfl hb8 <| c_skip <| n_block <| n_then <| c_region ?_
      refine s_ hf (r_add hf rfl rfl) fun a hf => ?_
      refine s_ hf (r_move hf rfl) fun a hf => ?_
      refine c_nil ?_
      obtain rfl := Option.some.inj hF
      exact Rnd.goes ⟨_, hw, hf.sub ⟨rfl, rfl, rfl, rfl, trivial⟩⟩
    refine c_ift hf rfl hb8 <| c_seq <| c_region ?_
    refine s_ hf (r_move hf rfl) fun a hf => ?_
    refine s_ hf (r_assign hf rfl) fun a hf => ?_
    refine c_nt <| c_retc ?_
    obtain rfl := Option.some.inj hF
    refine r_block <| r_then ?_
    refine Rnd.rets fun ho => ?_
    subst ho
    have hF := hG1
    dsimp only at hF
    obtain rfl := Option.some.inj hF
    refine r_block <| r_then <| c_ret hf (res_tmp Try.results108 hf rfl) ?_
    exact ⟨_, rfl, hw.below, rfl⟩
  rintro s2 a w hs ⟨ρ, hw, hf⟩
  subst hs
  have hF := hG1
  dsimp only at hF
  refine x_block <| n_then <| c_seq <| c_region ?_
  refine s_ hf (r_assign hf rfl) fun a hf => ?_
  refine c_nt <| c_retc ?_
  obtain rfl := Option.some.inj hF
  refine c_ret hf (res_tmp Try.results108 hf rfl) ?_
  exact ⟨_, rfl, hw.below, rfl⟩
/-! f55 -/
noncomputable def impl_inverted_l1 (a1 : List (List Int)) (s2 : Int) (s3 : List Nat) (s4 : List (List Int)) : Option (LR (Int × (List Nat) × (List (List Int))) (List (List Int))) :=
  if (decide (s2 < (a1.length : Int))) = true then (if 0 ≤ s2 ∧ s2 < (a1.length : Int) then (if 0 ≤ (a1.length : Int) ∧ (a1.length : Int) * 8 ≤ 281474976710656 then (if 0 ≤ s2 ∧ s2 < ((List.replicate (a1.length : Int).toNat (0 : Int)).length : Int) then ((slices_Concat_107 ([gl [] a1 s2, ((List.replicate (a1.length : Int).toNat (0 : Int)).set s2.toNat 1)] : List (List Int))).bind fun x13 => if (s3.length + 1) * 24 ≤ 140737488355328 then (some (.next (w64 (s2 + 1), (s3 ++ [s4.length]), (s4 ++ [x13])))) else none) else none) else none) else none) else (some (.stop (s2, s3, s4)))
noncomputable def impl_inverted_l42 (a0 : Int) (s21 : Int) (s22 : List Nat) (s23 : List (List Int)) (x26 : Int) (x39 : Int) (s43 : Int) (s44 : List (List Int)) : Option (LR (Int × (List (List Int))) (List (List Int))) :=
  if (decide (s43 < ((s23.getD (gl 0 ((s22.set s21.toNat (gl 0 s22 (w64 (s21 + x26)))).set (w64 (s21 + x26)).toNat (gl 0 s22 s21)) s21) []).length : Int))) = true then (if 0 ≤ s43 ∧ s43 < ((s44.getD (gl 0 ((s22.set s21.toNat (gl 0 s22 (w64 (s21 + x26)))).set (w64 (s21 + x26)).toNat (gl 0 s22 s21)) s21) []).length : Int) then (if a0 ≠ 0 then (some (.next (w64 (s43 + 1), (s44.set (gl 0 ((s22.set s21.toNat (gl 0 s22 (w64 (s21 + x26)))).set (w64 (s21 + x26)).toNat (gl 0 s22 s21)) s21) ((s44.getD (gl 0 ((s22.set s21.toNat (gl 0 s22 (w64 (s21 + x26)))).set (w64 (s21 + x26)).toNat (gl 0 s22 s21)) s21) []).set s43.toNat ((w64 ((gl 0 (s44.getD (gl 0 ((s22.set s21.toNat (gl 0 s22 (w64 (s21 + x26)))).set (w64 (s21 + x26)).toNat (gl 0 s22 s21)) s21) []) s43) * x39)).tmod a0)))))) else none) else none) else (some (.stop (s43, s44)))
noncomputable def impl_inverted_l62 (a0 : Int) (s21 : Int) (s22 : List Nat) (x26 : Int) (s53 : Int) (s54 : List (List Int)) (s63 : Int) (s64 : List (List Int)) : Option (LR (Int × (List (List Int))) (List (List Int))) :=
  if (decide (s63 < ((s54.getD (gl 0 ((s22.set s21.toNat (gl 0 s22 (w64 (s21 + x26)))).set (w64 (s21 + x26)).toNat (gl 0 s22 s21)) s53) []).length : Int))) = true then (if 0 ≤ s63 ∧ s63 < ((s64.getD (gl 0 ((s22.set s21.toNat (gl 0 s22 (w64 (s21 + x26)))).set (w64 (s21 + x26)).toNat (gl 0 s22 s21)) s53) []).length : Int) then (if 0 ≤ s63 ∧ s63 < ((s64.getD (gl 0 ((s22.set s21.toNat (gl 0 s22 (w64 (s21 + x26)))).set (w64 (s21 + x26)).toNat (gl 0 s22 s21)) s21) []).length : Int) then (if a0 ≠ 0 then (some (.next (w64 (s63 + 1), (s64.set (gl 0 ((s22.set s21.toNat (gl 0 s22 (w64 (s21 + x26)))).set (w64 (s21 + x26)).toNat (gl 0 s22 s21)) s53) ((s64.getD (gl 0 ((s22.set s21.toNat (gl 0 s22 (w64 (s21 + x26)))).set (w64 (s21 + x26)).toNat (gl 0 s22 s21)) s53) []).set s63.toNat ((w64 ((gl 0 (s64.getD (gl 0 ((s22.set s21.toNat (gl 0 s22 (w64 (s21 + x26)))).set (w64 (s21 + x26)).toNat (gl 0 s22 s21)) s53) []) s63) + (w64 ((w64 (a0 - (gl 0 (s54.getD (gl 0 ((s22.set s21.toNat (gl 0 s22 (w64 (s21 + x26)))).set (w64 (s21 + x26)).toNat (gl 0 s22 s21)) s53) []) s21))) * (gl 0 (s64.getD (gl 0 ((s22.set s21.toNat (gl 0 s22 (w64 (s21 + x26)))).set (w64 (s21 + x26)).toNat (gl 0 s22 s21)) s21) []) s63))))).tmod a0)))))) else none) else none) else none) else (some (.stop (s63, s64)))
noncomputable def impl_inverted_l52 (a0 : Int) (s21 : Int) (s22 : List Nat) (x26 : Int) (s53 : Int) (s54 : List (List Int)) : Option (LR (Int × (List (List Int))) (List (List Int))) :=
  if (decide (s53 < (((s22.set s21.toNat (gl 0 s22 (w64 (s21 + x26)))).set (w64 (s21 + x26)).toNat (gl 0 s22 s21)).length : Int))) = true then (if (decide (s53 = s21)) = true then (some (.next (w64 (s53 + 1), s54))) else (if 0 ≤ s53 ∧ s53 < (((s22.set s21.toNat (gl 0 s22 (w64 (s21 + x26)))).set (w64 (s21 + x26)).toNat (gl 0 s22 s21)).length : Int) then (if 0 ≤ s21 ∧ s21 < ((s54.getD (gl 0 ((s22.set s21.toNat (gl 0 s22 (w64 (s21 + x26)))).set (w64 (s21 + x26)).toNat (gl 0 s22 s21)) s53) []).length : Int) then ((iter (fun s => impl_inverted_l62 a0 s21 s22 x26 s53 s54 s.1 s.2) (0, s54)).bind fun o => match o with | .stop (s63, s64) => (some (.next (w64 (s53 + 1), s64))) | .ret r => some (.ret r) | .next _ => none) else none) else none)) else (some (.stop (s53, s54)))
noncomputable def impl_inverted_l20 (a0 : Int) (a1 : List (List Int)) (s21 : Int) (s22 : List Nat) (s23 : List (List Int)) : Option (LR (Int × (List Nat) × (List (List Int))) (List (List Int))) :=
  if (decide (s21 < (a1.length : Int))) = true then (if 0 ≤ s21 ∧ s21 ≤ ((gi s22 s23).length : Int) then ((slices_IndexFunc_108_f109 (((gi s22 s23).take ((gi s22 s23).length : Int).toNat).drop s21.toNat) s21).bind fun x26 => if 0 ≤ w64 (s21 + x26) ∧ w64 (s21 + x26) < (s22.length : Int) then (if 0 ≤ s21 ∧ s21 < (s22.length : Int) then (if 0 ≤ w64 (s21 + x26) ∧ w64 (s21 + x26) < ((s22.set s21.toNat (gl 0 s22 (w64 (s21 + x26)))).length : Int) then (if 0 ≤ s21 ∧ s21 < (((s22.set s21.toNat (gl 0 s22 (w64 (s21 + x26)))).set (w64 (s21 + x26)).toNat (gl 0 s22 s21)).length : Int) then (if 0 ≤ s21 ∧ s21 < ((s23.getD (gl 0 ((s22.set s21.toNat (gl 0 s22 (w64 (s21 + x26)))).set (w64 (s21 + x26)).toNat (gl 0 s22 s21)) s21) []).length : Int) then ((impl_inverse a0 (gl 0 (s23.getD (gl 0 ((s22.set s21.toNat (gl 0 s22 (w64 (s21 + x26)))).set (w64 (s21 + x26)).toNat (gl 0 s22 s21)) s21) []) s21)).bind fun x39 => (iter (fun s => impl_inverted_l42 a0 s21 s22 s23 x26 x39 s.1 s.2) (0, s23)).bind fun o => match o with | .stop (s43, s44) => ((iter (fun s => impl_inverted_l52 a0 s21 s22 x26 s.1 s.2) (0, s44)).bind fun o => match o with | .stop (s53, s54) => (some (.next (w64 (s21 + 1), ((s22.set s21.toNat (gl 0 s22 (w64 (s21 + x26)))).set (w64 (s21 + x26)).toNat (gl 0 s22 s21)), s54))) | .ret r => some (.ret r) | .next _ => none) | .ret r => some (.ret r) | .next _ => none) else none) else none) else none) else none) else none) else none) else (some (.stop (s21, s22, s23)))
noncomputable def impl_inverted_l75 (a1 : List (List Int)) (s22 : List Nat) (s23 : List (List Int)) (s76 : Int) (s77 : List Nat) (s78 : List (List Int)) : Option (LR (Int × (List Nat) × (List (List Int))) (List (List Int))) :=
  if (decide (s76 < (s22.length : Int))) = true then (if 0 ≤ s76 ∧ s76 < (s22.length : Int) then (if 0 ≤ (a1.length : Int) ∧ (a1.length : Int) ≤ ((s23.getD (gl 0 s22 s76) []).length : Int) then ((slices_Clone_111 (((s23.getD (gl 0 s22 s76) []).take ((s23.getD (gl 0 s22 s76) []).length : Int).toNat).drop (a1.length : Int).toNat)).bind fun x85 => if (s77.length + 1) * 24 ≤ 140737488355328 then (some (.next (w64 (s76 + 1), (s77 ++ [s78.length]), (s78 ++ [x85])))) else none) else none) else none) else (some (.stop (s76, s77, s78)))
noncomputable def impl_inverted (a0 : Int) (a1 : List (List Int)) : Option (List (List Int)) :=
  (iter (fun s => impl_inverted_l1 a1 s.1 s.2.1 s.2.2) (0, ([] : List Nat), ([] : List (List Int)))).bind fun o => match o with | .stop (s2, s3, s4) => ((iter (fun s => impl_inverted_l20 a0 a1 s.1 s.2.1 s.2.2) (0, s3, s4)).bind fun o => match o with | .stop (s21, s22, s23) => ((iter (fun s => impl_inverted_l75 a1 s22 s23 s.1 s.2.1 s.2.2) (0, ([] : List Nat), ([] : List (List Int)))).bind fun o => match o with | .stop (s76, s77, s78) => (some ((gi s77 s78))) | .ret r => some r | .next _ => none) | .ret r => some r | .next _ => none) | .ret r => some r | .next _ => none
theorem impl_inverted_ok {w0 : World} {a0 : Int} {a1 : List (List Int)} {va1 : Value} (h1 : Ro (Kd.slice 2 (kf fI64)) w0 va1 a1) {r : List (List Int)} (hF : impl_inverted a0 a1 = some r) :
    Calls Try.prog 55 [vI a0, va1].toArray w0 fun e w => ∃ v, e = .returned v ∧ Below w0.heap.size w0 w ∧ ∃ u0, u0 = v ∧ Fresh (Kd.slice 2 (kf fI64)) 36 w0 w u0 r := by
  refine calls_of (k := 172) Try.func55 rfl rfl (Nat.le_of_ble_eq_true rfl) fun a hf => ?_
  replace hf : Fr 172 a [(0, vI a0), (1, va1)] := hf
  refine c_start fun w ρ hw => ?_
  unfold impl_inverted at hF
  refine c_seq <| c_region ?_
  have o1 : Ow (Kd.slice 2 (kf fI64)) 36 ρ w w0.heap.size 1 (.slice none 0 0) [] := Ow.nil _ _ _ _ _ _
  refine s_ hf (r_assign hf rfl) fun a hf => ?_
  refine c_nt <| c_seq <| c_region ?_
  refine s_ hf (r_move hf rfl) fun a hf => ?_
  refine s_ hf (r_len Try.underlying24 (h1.now hw) hf rfl) fun a hf => ?_
  refine s_ hf (r_assign hf rfl) fun a hf => ?_
  refine c_nt <| c_seq <| c_region ?_
  refine sx_ hf (r_lit_none (d := (Kd.slice 2 (kf fI64))) 2 Try.underlying24 el36 hw) fun a v2 w hf hΦ => ?_
  obtain ⟨ρ, hw, hE, o2⟩ := hΦ
  replace o1 := o1.ext hE
  replace o2 : Gd fI64 2 36 ρ w w0.heap.size 2 v2 (fun _ => (⟨.bool false, rfl⟩ : V1)) ([] : List Nat) ([] : List (List Int)) := Gd.empty o2 rfl (by decide) _
  refine s_ hf (r_assign hf rfl) fun a hf => ?_
  refine c_nt <| c_seq <| c_seq <| c_region ?_
  refine s_ hf (r_move hf rfl) fun a hf => ?_
  refine s_ hf (r_len Try.underlying24 (h1.now hw) hf rfl) fun a hf => ?_
  refine s_ hf (r_move hf rfl) fun a hf => ?_
  refine c_nt ?_
  obtain ⟨ol1, ho1, hG1⟩ := of_bind hF
  clear hF
  refine c_block (c_loop (id := 0) (fun s => impl_inverted_l1 a1 s.1 s.2.1 s.2.2) (fun (s : Int × (List Nat) × (List (List Int))) a w => match s with | (s2, s3, s4) => ∃ ρ vv5 f6, Wd w0 ρ w ∧ Fr 172 a [(0, vI a0), (5, vI (a1.length : Int)), (6, vv5), (23, va1), (24, vI (a1.length : Int)), (25, vI s2)] ∧ Gd fI64 2 36 ρ w w0.heap.size 2 vv5 f6 s3 s4) (fun (s : Int × (List Nat) × (List (List Int))) a w => match s with | (s2, s3, s4) => ∃ ρ vv5 f6, Wd w0 ρ w ∧ Fr 172 a [(0, vI a0), (5, vI (a1.length : Int)), (6, vv5)] ∧ Gd fI64 2 36 ρ w w0.heap.size 2 vv5 f6 s3 s4) ho1 ⟨_, _, _, hw, hf.sub ⟨rfl, rfl, rfl, rfl, rfl, rfl, trivial⟩, o2⟩ ?_ ?_)
  · rintro ⟨s2, s3, s4⟩ lr a w ⟨ρ, vv5, f6, hw, hf, o2⟩ hF
    replace hF : impl_inverted_l1 a1 s2 s3 s4 = some lr := hF
    unfold impl_inverted_l1 at hF
    refine c_seq <| c_region ?_
    refine s_ hf (r_lss hf rfl rfl) fun a hf => ?_
    refine c_nt <| c_seq ?_
    rcases of_ite hF with ⟨hb7, hF⟩ | ⟨hb7, hF⟩
    rotate_left
    · refine c_iff hf rfl hb7 <| c_exit <| x_then ?_
      obtain rfl := Option.some.inj hF
      exact Rnd.stops ⟨_, _, _, hw, hf.sub ⟨rfl, rfl, rfl, trivial⟩, o2⟩
    refine c_ift hf rfl hb7 <| c_skip <| n_then <| c_seq <| c_block <| c_seq <| c_region ?_
    refine s_ hf (r_move hf rfl) fun a hf => ?_
    obtain ⟨hc8, hF⟩ := of_guard hF
    obtain ⟨ad9, c9, u9, he9, hl9, ho9⟩ := Ro.el_row h1 hc8.1 hc8.2
    refine s_ hf (r_idx Try.underlying24 sz36 hf rfl ⟨_, he9⟩ rfl hc8.1 hc8.2) fun a hf => ?_
    refine s_ hf (r_load_cell ty36 hf rfl (hl9.below hw.below)) fun a hf => ?_
    refine s_ hf (r_assign hf rfl) fun a hf => ?_
    refine s_ hf (r_assign hf rfl) fun a hf => ?_
    refine c_nt <| c_seq <| c_region ?_
    refine s_ hf (r_move hf rfl) fun a hf => ?_
    obtain ⟨hc10, hF⟩ := of_guard hF
    refine sx_ hf (r_make (d := fI64) (z0 := 0) 3 Try.underlying36 el2 rfl hw hf rfl hc10.1 (mk_le hc10.1 hc10.2)) fun a v3 w hf hΦ => ?_
    obtain ⟨ρ, hw, hE, o3⟩ := hΦ
    replace o2 := o2.ext hE
    refine s_ hf (r_assign hf rfl) fun a hf => ?_
    refine c_nt <| c_seq <| c_region ?_
    refine s_ hf (r_move hf rfl) fun a hf => ?_
    refine s_ hf (r_move hf rfl) fun a hf => ?_
    obtain ⟨hc11, hF⟩ := of_guard hF
    obtain ⟨ad12, hl12⟩ := Ow.ce (d := fI64) o3 0 hc11.1 hc11.2
    refine s_ hf (r_idx Try.underlying36 sz2 hf rfl hl12.at_ rfl hc11.1 hc11.2) fun a hf => ?_
    refine sk_ hf (r_store_ec (b := 1) 0 hw (by decide) o3 hc11.1 hc11.2 (Lens.id _) hl12.at_ ty2 (by first | rfl | exact Nat.add_assoc _ _ _ | (simp only [Nat.add_assoc]; rfl)) hf rfl rfl rfl) fun a w hf hΦ => ?_
    obtain ⟨hw, hA, o3⟩ := hΦ
    replace o2 := o2.adv hA (by decide) (fun _ => by unfold lab; omega)
    refine c_nt <| c_region ?_
    refine s_ hf (r_move hf rfl) fun a hf => ?_
    refine s_ hf (r_move hf rfl) fun a hf => ?_
    refine s_ hf (r_move hf rfl) fun a hf => ?_
    refine sx_ hf (r_lit_ro (d := (Kd.slice 2 (kf fI64))) (m := 1) (xs := ([gl [] a1 s2, ((List.replicate (a1.length : Int).toNat (0 : Int)).set s2.toNat 1)] : List (List Int))) (raws := [⟨[u9], rfl, one_one (ho9.now hw).one⟩, ⟨[v3], rfl, one_one o3.ro.one⟩]) (vs := [u9, v3]) rfl Try.underlying24 el36 (Nat.le_of_ble_eq_true rfl) (Nat.le_of_ble_eq_true rfl) hw hf rfl rfl (cl2 (ho9.now hw).cells1 (cl2 o3.ro.cells1 rfl)) ⟨(ho9.now hw).K 2, ⟨o3.ro.K 2, trivial⟩⟩) fun a v5 w hf hΦ => ?_
    obtain ⟨ρ, hw, hE, o5⟩ := hΦ
    replace o2 := o2.ext hE
    replace o3 := o3.ext hE
    obtain ⟨x13, hx14, hF⟩ := of_bind hF
    refine st_fn 6 hw hf rfl rfl (by decide) (r_fn en107 hf rfl) (slices_Concat_107_ok o5 hx14) fun a v w ρ hf hw hE hN hΦ => ?_
    obtain ⟨u15, rfl, hr16⟩ := hΦ
    replace o2 := o2.ext hE
    replace o3 := o3.ext hE
    replace o5 := o5.ext hE
    have o6 := hN hr16
    refine sx_ hf (r_glit 7 Try.underlying24 el36 hw hf rfl o6) fun a v7 w hf hΦ => ?_
    obtain ⟨ρ, hw, hE, o7⟩ := hΦ
    replace o2 := o2.ext hE
    replace o3 := o3.ext hE
    replace o5 := o5.ext hE
    replace o6 := o6.ext hE
    obtain ⟨hc17, hF⟩ := of_guard hF
    refine sx_ hf (r_gapp' Try.underlying24 el36 hw (by decide) (by decide) (fun _ => by unfold lab; omega) o2 o7 o6 hc17 hf rfl rfl) fun a va18 w hf hΦ => ?_
    obtain ⟨f18, ρ, hw, hT, o2, hff18, hnu18⟩ := hΦ
    replace o3 := o3.tr (hT 3 (by decide) (by decide))
    rw [hnu18] at hf
    have hn19 : s4.length < (s4 ++ [x13]).length := by simp
    refine s_ hf (r_assign hf rfl) fun a hf => ?_
    refine c_nil <| n_block <| n_then <| c_region ?_
    refine s_ hf (r_add hf rfl rfl) fun a hf => ?_
    refine s_ hf (r_move hf rfl) fun a hf => ?_
    refine c_nil ?_
    obtain rfl := Option.some.inj hF
    exact Rnd.goes ⟨_, _, _, hw, hf.sub ⟨rfl, rfl, rfl, rfl, rfl, rfl, trivial⟩, o2⟩
  rintro ⟨s2, s3, s4⟩ a w hs ⟨ρ, vv5, f6, hw, hf, o2⟩
  subst hs
  have hF := hG1
  dsimp only at hF
  refine x_block <| n_then <| c_seq <| c_seq <| c_region ?_
  refine s_ hf (r_move hf rfl) fun a hf => ?_
  refine s_ hf (r_move hf rfl) fun a hf => ?_
  refine c_nt ?_
  obtain ⟨ol20, ho20, hG20⟩ := of_bind hF
  clear hF
  refine c_block (c_loop (id := 2) (fun s => impl_inverted_l20 a0 a1 s.1 s.2.1 s.2.2) (fun (s : Int × (List Nat) × (List (List Int))) a w => match s with | (s21, s22, s23) => ∃ ρ, Wd w0 ρ w ∧ Fr 172 a [(0, vI a0), (5, vI (a1.length : Int)), (6, vv5), (43, vI (a1.length : Int)), (44, vI s21)] ∧ Gd fI64 2 36 ρ w w0.heap.size 2 vv5 f6 s22 s23) (fun (s : Int × (List Nat) × (List (List Int))) a w => match s with | (s21, s22, s23) => ∃ ρ, Wd w0 ρ w ∧ Fr 172 a [(5, vI (a1.length : Int)), (6, vv5)] ∧ Gd fI64 2 36 ρ w w0.heap.size 2 vv5 f6 s22 s23) ho20 ⟨_, hw, hf.sub ⟨rfl, rfl, rfl, rfl, rfl, trivial⟩, o2⟩ ?_ ?_)
  · rintro ⟨s21, s22, s23⟩ lr a w ⟨ρ, hw, hf, o2⟩ hF
    replace hF : impl_inverted_l20 a0 a1 s21 s22 s23 = some lr := hF
    unfold impl_inverted_l20 at hF
    refine c_seq <| c_region ?_
    refine s_ hf (r_lss hf rfl rfl) fun a hf => ?_
    refine c_nt <| c_seq ?_
    rcases of_ite hF with ⟨hb24, hF⟩ | ⟨hb24, hF⟩
    rotate_left
    · refine c_iff hf rfl hb24 <| c_exit <| x_then ?_
      obtain rfl := Option.some.inj hF
      exact Rnd.stops ⟨_, hw, hf.sub ⟨rfl, rfl, trivial⟩, o2⟩
    refine c_ift hf rfl hb24 <| c_skip <| n_then <| c_seq <| c_block <| c_seq <| c_region ?_
    refine s_ hf (r_move hf rfl) fun a hf => ?_
    refine sx_ hf (r_alloc (cs := [vI 0]) 9 ze3 rfl hw) fun a v w hf hΦ => ?_
    obtain ⟨g9, ρ, rfl, hw, hE, o9⟩ := hΦ
    replace o2 := o2.ext hE
    refine sk_ hf (r_store_w (cs' := [vI s21]) hw o9 (by decide) ty3 rfl rfl (one_one rfl) hf rfl rfl rfl) fun a w hf hΦ => ?_
    obtain ⟨hw, hA, o9⟩ := hΦ
    replace o2 := o2.adv hA (by decide) (fun _ => by unfold lab; omega)
    refine c_nt <| c_seq ?_
    obtain ⟨hc25, hF⟩ := of_guard hF
    obtain ⟨x26, hx27, hF⟩ := of_bind hF
    replace hf : Fr 172 a [(0, vI a0), (5, vI (a1.length : Int)), (6, vv5), (10, .pointer (some ((⟨g9, 0, none⟩ : Addr).add 0))), (43, vI (a1.length : Int)), (44, vI s21)] := hf.sub ⟨rfl, rfl, rfl, rfl, rfl, rfl, trivial⟩
    refine c_drawL (h := 6) mixed (by kernel_rfl) (by kernel_rfl) (fun ρ w => Gd fI64 2 36 ρ w w0.heap.size 2 vv5 f6 s22 s23 ∧ Va ρ w 9 g9 3 ([vI s21])) ?_ [fun ρ w v => vI s21 = v, fun ρ w v => vv5 = v, fun ρ w v => vI s21 = v, fun ρ w v => (cutV vv5 s21.toNat ((gi s22 s23).length : Int).toNat 1) = v ∧ Ro (Kd.slice 2 (kf fI64)) w (cutV vv5 s21.toNat ((gi s22 s23).length : Int).toNat 1) (((gi s22 s23).take ((gi s22 s23).length : Int).toNat).drop s21.toNat), fun ρ w v => .func (.func 109) #[] #[.pointer (some ((⟨g9, 0, none⟩ : Addr).add 0))] = v, fun ρ w v => vI x26 = v] ?_ hw ⟨o2, o9⟩ hf ?_ ?_
    · intro ρ w ρ' w' hE hG
      obtain ⟨o2, o9⟩ := hG
      exact ⟨o2.ext hE, o9.ext hE⟩
    · exact LastsL.cons (fun _ _ _ _ _ _ h => h) <| LastsL.cons (fun _ _ _ _ _ _ h => h) <| LastsL.cons (fun _ _ _ _ _ _ h => h) <| LastsL.cons (fun _ _ _ _ _ hE h => by obtain ⟨h, o10⟩ := h; exact ⟨h, o10.ext hE⟩) <| LastsL.cons (fun _ _ _ _ _ _ h => h) <| LastsL.cons (fun _ _ _ _ _ _ h => h) <| LastsL.nil
    · refine StepsB.cons ?_ <| StepsB.cons ?_ <| StepsB.cons ?_ <| StepsB.cons ?_ <| StepsB.cons ?_ <| StepsB.cons ?_ <| StepsB.nil
      · intro ρ w a hw hG hf hd K hK
        obtain ⟨o2, o9⟩ := hG
        exact dv_ hK hw (wn rfl) (r_load_cell ty3 hf rfl o9.cl) rfl
      · intro ρ w a hw hG hf hd K hK
        obtain ⟨o2, o9⟩ := hG
        exact dv_ hK hw (wn rfl) (r_move hf rfl) rfl
      · intro ρ w a hw hG hf hd K hK
        obtain ⟨o2, o9⟩ := hG
        exact dv_ hK hw (wn rfl) (r_load_cell ty3 hf rfl o9.cl) rfl
      · intro ρ w a hw hG hf hd K hK
        obtain ⟨o2, o9⟩ := hG
        obtain ⟨_, hf, rfl⟩ := got (hd 1 (by kernel_rfl)) hf
        obtain ⟨_, hf, rfl⟩ := got (hd 2 (by kernel_rfl)) hf
        have o10 : Ro (Kd.slice 2 (kf fI64)) w (cutV vv5 s21.toNat ((gi s22 s23).length : Int).toNat 1) (((gi s22 s23).take ((gi s22 s23).length : Int).toNat).drop s21.toNat) := ro_cutV o2.ro hc25.1 hc25.2 (Int.le_refl _)
        exact dv_ hK hw (wn rfl) (r_cut_v (lo := s21) (hi := ((gi s22 s23).length : Int)) Try.underlying24 sz36 rfl o2.ro hf rfl (.inr ⟨_, rfl, rfl⟩) (.inl ⟨rfl, rfl⟩) hc25.1 hc25.2 (Int.le_refl _)) (an_ rfl <| o10)
      · intro ρ w a hw hG hf hd K hK
        obtain ⟨o2, o9⟩ := hG
        exact dv_ hK hw (wn rfl) (r_mkfn hf rfl) rfl
      · intro ρ w a hw hG hf hd K hK
        obtain ⟨o2, o9⟩ := hG
        obtain ⟨_, hf, ⟨rfl, o10⟩⟩ := got (hd 3 (by kernel_rfl)) hf
        obtain ⟨_, hf, rfl⟩ := got (hd 4 (by kernel_rfl)) hf
        refine dc_ hK hw (wn rfl) (r_fn en108 hf rfl) (slices_IndexFunc_108_f109_ok o10 o9.cl hx27) fun v w' hΦ => ?_
        obtain ⟨hb, hΦ⟩ := hΦ
        obtain rfl := hΦ
        have hE := Ext.new (ρ := ρ) 11 hb
        exact ⟨_, hw.new 11 hb, hE, rfl⟩
    intro ρ w a hw hG hf hd
    obtain ⟨o2, o9⟩ := hG
    obtain ⟨_, hf, rfl⟩ := got (hd 0 (by decide)) hf
    obtain ⟨_, hf, rfl⟩ := got (hd 5 (by decide)) hf
    refine s_ hf (r_add hf rfl rfl) fun a hf => ?_
    refine s_ hf (r_assign hf rfl) fun a hf => ?_
    refine c_nt <| c_seq ?_
    obtain ⟨hc28, hF⟩ := of_guard hF
    obtain ⟨hc30, hF⟩ := of_guard hF
    replace hf : Fr 172 a [(0, vI a0), (5, vI (a1.length : Int)), (6, vv5), (10, .pointer (some ((⟨g9, 0, none⟩ : Addr).add 0))), (11, vI (w64 (s21 + x26))), (43, vI (a1.length : Int)), (44, vI s21)] := hf.sub ⟨rfl, rfl, rfl, rfl, rfl, rfl, rfl, trivial⟩
    refine c_stage 14 [13] mixed (by kernel_rfl) (by kernel_rfl) (fun c ρ w => Va ρ w 9 g9 3 ([vI s21]) ∧ (c ≤ 0 → Gd fI64 2 36 ρ w w0.heap.size 2 vv5 f6 s22 s23) ∧ (0 < c → Gd fI64 2 36 ρ w w0.heap.size 2 vv5 f6 (s22.set s21.toNat (gl 0 s22 (w64 (s21 + x26)))) s23)) ?_ [fun c ρ w v => vv5 = v, fun c ρ w v => vI s21 = v, fun c ρ w v => vv5 = v, fun c ρ w v => vI (w64 (s21 + x26)) = v, fun c ρ w v => vv5 = v, fun c ρ w v => vI (w64 (s21 + x26)) = v, fun c ρ w v => ∃ ad29, .pointer (some (ad29.add ((w64 (s21 + x26)).toNat * 1))) = v ∧ (gl 0 s22 (w64 (s21 + x26))) < s23.length ∧ (c ≤ 0 → Ce ρ w 2 vv5 s22.length ad29 ((w64 (s21 + x26)).toNat * 1) ([(f6 (gl 0 s22 (w64 (s21 + x26)))).1])), fun c ρ w v => (f6 (gl 0 s22 (w64 (s21 + x26)))).1 = v ∧ (gl 0 s22 (w64 (s21 + x26))) < s23.length, fun c ρ w v => vv5 = v, fun c ρ w v => vI s21 = v, fun c ρ w v => ∃ ad31, .pointer (some (ad31.add (s21.toNat * 1))) = v ∧ (gl 0 s22 s21) < s23.length ∧ (c ≤ 0 → Ce ρ w 2 vv5 s22.length ad31 (s21.toNat * 1) ([(f6 (gl 0 s22 s21)).1])), fun c ρ w v => (f6 (gl 0 s22 s21)).1 = v ∧ (gl 0 s22 s21) < s23.length, fun c ρ w v => ∃ ad32, .pointer (some (ad32.add (s21.toNat * 1))) = v ∧ (gl 0 s22 s21) < s23.length ∧ (c ≤ 0 → Ce ρ w 2 vv5 s22.length ad32 (s21.toNat * 1) ([(f6 (gl 0 s22 s21)).1])), fun _ _ _ _ => True] ?_ hw ⟨o9, (fun _ => o2), (fun h => absurd h (Nat.not_lt_zero _))⟩ hf ?_ ?_
    · intro c ρ w ρ' w' hE hG
      obtain ⟨o9, o2x, o2y⟩ := hG
      exact ⟨o9.ext hE, (fun h => (o2x h).ext hE), (fun h => by obtain o2 := o2y h; exact o2.ext hE)⟩
    · exact LastsS.cons (fun _ _ _ _ _ _ _ h => h) <| LastsS.cons (fun _ _ _ _ _ _ _ h => h) <| LastsS.cons (fun _ _ _ _ _ _ _ h => h) <| LastsS.cons (fun _ _ _ _ _ _ _ h => h) <| LastsS.cons (fun _ _ _ _ _ _ _ h => h) <| LastsS.cons (fun _ _ _ _ _ _ _ h => h) <| LastsS.cons (fun c _ _ _ _ _ hE h => by obtain ⟨ad29, h, hn29, hl29⟩ := h; exact ⟨_, h, hn29, (fun h => (hl29 h).ext hE)⟩) <| LastsS.cons (fun c _ _ _ _ _ hE h => by obtain ⟨h, hn29⟩ := h; exact ⟨h, hn29⟩) <| LastsS.cons (fun _ _ _ _ _ _ _ h => h) <| LastsS.cons (fun _ _ _ _ _ _ _ h => h) <| LastsS.cons (fun c _ _ _ _ _ hE h => by obtain ⟨ad31, h, hn31, hl31⟩ := h; exact ⟨_, h, hn31, (fun h => (hl31 h).ext hE)⟩) <| LastsS.cons (fun c _ _ _ _ _ hE h => by obtain ⟨h, hn31⟩ := h; exact ⟨h, hn31⟩) <| LastsS.cons (fun c _ _ _ _ _ hE h => by obtain ⟨ad32, h, hn32, hl32⟩ := h; exact ⟨_, h, hn32, (fun h => (hl32 h).ext hE)⟩) <| LastsS.cons (fun _ _ _ _ _ _ _ h => h) <| LastsS.nil
    · refine StepsS.float rfl ?_ <| StepsS.float rfl ?_ <| StepsS.float rfl ?_ <| StepsS.float rfl ?_ <| StepsS.float rfl ?_ <| StepsS.float rfl ?_ <| StepsS.float rfl ?_ <| StepsS.float rfl ?_ <| StepsS.float rfl ?_ <| StepsS.float rfl ?_ <| StepsS.float rfl ?_ <| StepsS.float rfl ?_ <| StepsS.float rfl ?_ <| StepsS.main 0 rfl rfl ?_ <| StepsS.nil
      · intro c ρ w a hs hw hG hf hd K hK
        obtain ⟨o9, o2x, o2y⟩ := hG
        have o2 := o2x (hs 0 (by decide) (by kernel_rfl))
        exact dv_ hK hw (wn rfl) (r_move hf rfl) rfl
      · intro c ρ w a hs hw hG hf hd K hK
        obtain ⟨o9, o2x, o2y⟩ := hG
        have o2 := o2x (hs 0 (by decide) (by kernel_rfl))
        exact dv_ hK hw (wn rfl) (r_load_cell ty3 hf rfl o9.cl) rfl
      · intro c ρ w a hs hw hG hf hd K hK
        obtain ⟨o9, o2x, o2y⟩ := hG
        exact dv_ hK hw (wn rfl) (r_move hf rfl) rfl
      · intro c ρ w a hs hw hG hf hd K hK
        obtain ⟨o9, o2x, o2y⟩ := hG
        exact dv_ hK hw (wn rfl) (r_move hf rfl) rfl
      · intro c ρ w a hs hw hG hf hd K hK
        obtain ⟨o9, o2x, o2y⟩ := hG
        have o2 := o2x (hs 0 (by decide) (by kernel_rfl))
        exact dv_ hK hw (wn rfl) (r_move hf rfl) rfl
      · intro c ρ w a hs hw hG hf hd K hK
        obtain ⟨o9, o2x, o2y⟩ := hG
        have o2 := o2x (hs 0 (by decide) (by kernel_rfl))
        exact dv_ hK hw (wn rfl) (r_move hf rfl) rfl
      · intro c ρ w a hs hw hG hf hd K hK
        obtain ⟨o9, o2x, o2y⟩ := hG
        have o2 := o2x (hs 0 (by decide) (by kernel_rfl))
        obtain ⟨_, ht4, rfl⟩ := hd 4 (by kernel_rfl) (by kernel_rfl)
        replace hf := hf.more ht4
        obtain ⟨_, ht5, rfl⟩ := hd 5 (by kernel_rfl) (by kernel_rfl)
        replace hf := hf.more ht5
        obtain ⟨ad29, hl29⟩ := Ow.ce (d := fRef f6) o2.out 0 hc28.1 hc28.2
        have hn29 := o2.lt_gl hc28.1 hc28.2
        exact dv_ hK hw (wn rfl) (r_idx Try.underlying24 sz36 hf rfl hl29.at_ rfl hc28.1 hc28.2) (ex_ <| an_ rfl <| an_ hn29 <| fun _ => hl29)
      · intro c ρ w a hs hw hG hf hd K hK
        obtain ⟨o9, o2x, o2y⟩ := hG
        have o2 := o2x (hs 0 (by decide) (by kernel_rfl))
        obtain ⟨_, ht6, ⟨ad29, rfl, hn29, hl29⟩⟩ := hd 6 (by kernel_rfl) (by kernel_rfl)
        replace hl29 := hl29 (hs 0 (by decide) (by kernel_rfl))
        replace hf := hf.more ht6
        exact dv_ hK hw (wn rfl) (r_load_cell ty36 hf rfl hl29.co.cl) (an_ rfl <| hn29)
      · intro c ρ w a hs hw hG hf hd K hK
        obtain ⟨o9, o2x, o2y⟩ := hG
        exact dv_ hK hw (wn rfl) (r_move hf rfl) rfl
      · intro c ρ w a hs hw hG hf hd K hK
        obtain ⟨o9, o2x, o2y⟩ := hG
        exact dv_ hK hw (wn rfl) (r_load_cell ty3 hf rfl o9.cl) rfl
      · intro c ρ w a hs hw hG hf hd K hK
        obtain ⟨o9, o2x, o2y⟩ := hG
        have o2 := o2x (hs 0 (by decide) (by kernel_rfl))
        obtain ⟨_, ht8, rfl⟩ := hd 8 (by kernel_rfl) (by kernel_rfl)
        replace hf := hf.more ht8
        obtain ⟨_, ht9, rfl⟩ := hd 9 (by kernel_rfl) (by kernel_rfl)
        replace hf := hf.more ht9
        obtain ⟨ad31, hl31⟩ := Ow.ce (d := fRef f6) o2.out 0 hc30.1 hc30.2
        have hn31 := o2.lt_gl hc30.1 hc30.2
        exact dv_ hK hw (wn rfl) (r_idx Try.underlying24 sz36 hf rfl hl31.at_ rfl hc30.1 hc30.2) (ex_ <| an_ rfl <| an_ hn31 <| fun _ => hl31)
      · intro c ρ w a hs hw hG hf hd K hK
        obtain ⟨o9, o2x, o2y⟩ := hG
        have o2 := o2x (hs 0 (by decide) (by kernel_rfl))
        obtain ⟨_, ht10, ⟨ad31, rfl, hn31, hl31⟩⟩ := hd 10 (by kernel_rfl) (by kernel_rfl)
        replace hl31 := hl31 (hs 0 (by decide) (by kernel_rfl))
        replace hf := hf.more ht10
        exact dv_ hK hw (wn rfl) (r_load_cell ty36 hf rfl hl31.co.cl) (an_ rfl <| hn31)
      · intro c ρ w a hs hw hG hf hd K hK
        obtain ⟨o9, o2x, o2y⟩ := hG
        have o2 := o2x (hs 0 (by decide) (by kernel_rfl))
        obtain ⟨_, ht0, rfl⟩ := hd 0 (by kernel_rfl) (by kernel_rfl)
        replace hf := hf.more ht0
        obtain ⟨_, ht1, rfl⟩ := hd 1 (by kernel_rfl) (by kernel_rfl)
        replace hf := hf.more ht1
        obtain ⟨ad32, hl32⟩ := Ow.ce (d := fRef f6) o2.out 0 hc30.1 hc30.2
        have hn32 := o2.lt_gl hc30.1 hc30.2
        exact dv_ hK hw (wn rfl) (r_idx Try.underlying24 sz36 hf rfl hl32.at_ rfl hc30.1 hc30.2) (ex_ <| an_ rfl <| an_ hn32 <| fun _ => hl32)
      · intro ρ w a S hw hG hf hS hdep hSi K hK
        obtain ⟨o9, o2x, o2y⟩ := hG
        have hfL := hf
        have o2 := o2x (by decide)
        obtain ⟨_, ht7, ⟨rfl, hn29⟩⟩ := hS 7 (by decide) (hdep 7 (by kernel_rfl)) (by kernel_rfl)
        replace hf := hf.more ht7
        obtain ⟨_, ht12, ⟨ad32, rfl, hn32, hl32⟩⟩ := hS 12 (by decide) (hdep 12 (by kernel_rfl)) (by kernel_rfl)
        replace hl32 := hl32 (by decide)
        replace hf := hf.more ht12
        refine m_skip (Γ := fun c ρ w => Va ρ w 9 g9 3 ([vI s21]) ∧ (c ≤ 0 → Gd fI64 2 36 ρ w w0.heap.size 2 vv5 f6 s22 s23) ∧ (0 < c → Gd fI64 2 36 ρ w w0.heap.size 2 vv5 f6 (s22.set s21.toNat (gl 0 s22 (w64 (s21 + x26)))) s23)) (Rl := [fun c ρ w v => vv5 = v, fun c ρ w v => vI s21 = v, fun c ρ w v => vv5 = v, fun c ρ w v => vI (w64 (s21 + x26)) = v, fun c ρ w v => vv5 = v, fun c ρ w v => vI (w64 (s21 + x26)) = v, fun c ρ w v => ∃ ad29, .pointer (some (ad29.add ((w64 (s21 + x26)).toNat * 1))) = v ∧ (gl 0 s22 (w64 (s21 + x26))) < s23.length ∧ (c ≤ 0 → Ce ρ w 2 vv5 s22.length ad29 ((w64 (s21 + x26)).toNat * 1) ([(f6 (gl 0 s22 (w64 (s21 + x26)))).1])), fun c ρ w v => (f6 (gl 0 s22 (w64 (s21 + x26)))).1 = v ∧ (gl 0 s22 (w64 (s21 + x26))) < s23.length, fun c ρ w v => vv5 = v, fun c ρ w v => vI s21 = v, fun c ρ w v => ∃ ad31, .pointer (some (ad31.add (s21.toNat * 1))) = v ∧ (gl 0 s22 s21) < s23.length ∧ (c ≤ 0 → Ce ρ w 2 vv5 s22.length ad31 (s21.toNat * 1) ([(f6 (gl 0 s22 s21)).1])), fun c ρ w v => (f6 (gl 0 s22 s21)).1 = v ∧ (gl 0 s22 s21) < s23.length, fun c ρ w v => ∃ ad32, .pointer (some (ad32.add (s21.toNat * 1))) = v ∧ (gl 0 s22 s21) < s23.length ∧ (c ≤ 0 → Ce ρ w 2 vv5 s22.length ad32 (s21.toNat * 1) ([(f6 (gl 0 s22 s21)).1])), fun _ _ _ _ => True]) hfL hS (by kernel_rfl) rfl (wn rfl) (r_gset (p := s21) hw o2 hn29 hc30.1 hc30.2 hl32.at_ ty36 rfl hf rfl rfl) (fun w' hΦ => ?_) hK
        obtain ⟨hw, hA, o2⟩ := hΦ
        replace o9 := o9.adv hA (by decide)
        refine ⟨_, hw, ⟨o9, (fun h => absurd h (by decide)), (fun _ => o2)⟩, ?_⟩
        · exact PassL.cons (fun h => h) <| PassL.cons (fun h => h) <| PassL.cons (fun h => h) <| PassL.cons (fun h => h) <| PassL.cons (fun h => h) <| PassL.cons (fun h => h) <| PassL.cons (fun h => by obtain ⟨_, ht, ad29, h, hn29, hl29⟩ := h; exact ⟨_, ht, _, h, hn29, (fun h => absurd h (by decide))⟩) <| PassL.cons (fun h => by obtain ⟨_, ht, h, hn29⟩ := h; exact ⟨_, ht, h, hn29⟩) <| PassL.cons (fun h => h) <| PassL.cons (fun h => h) <| PassL.cons (fun h => by obtain ⟨_, ht, ad31, h, hn31, hl31⟩ := h; exact ⟨_, ht, _, h, hn31, (fun h => absurd h (by decide))⟩) <| PassL.cons (fun h => by obtain ⟨_, ht, h, hn31⟩ := h; exact ⟨_, ht, h, hn31⟩) <| PassL.cons (fun h => by obtain ⟨_, ht, ad32, h, hn32, hl32⟩ := h; exact ⟨_, ht, _, h, hn32, (fun h => absurd h (by decide))⟩) <| PassL.here <| PassL.nil
    intro ρ w a hw hG hf hd
    obtain ⟨o9, o2x, o2y⟩ := hG
    obtain o2 := o2y (by decide)
    obtain ⟨_, hf, rfl⟩ := got (hd 2 (by decide) (by kernel_rfl)) hf
    obtain ⟨_, hf, rfl⟩ := got (hd 3 (by decide) (by kernel_rfl)) hf
    obtain ⟨_, hf, ⟨rfl, hn31⟩⟩ := got (hd 11 (by decide) (by kernel_rfl)) hf
    obtain ⟨hc33, hF⟩ := of_guard hF
    obtain ⟨ad34, hl34⟩ := Ow.ce (d := fRef f6) o2.out 0 hc33.1 hc33.2
    have hn34 := o2.lt_gl hc33.1 hc33.2
    refine s_ hf (r_idx Try.underlying24 sz36 hf rfl hl34.at_ rfl hc33.1 hc33.2) fun a hf => ?_
    refine sk_ hf (r_gset (p := w64 (s21 + x26)) hw o2 hn31 hc33.1 hc33.2 hl34.at_ ty36 rfl hf rfl rfl) fun a w hf hΦ => ?_
    obtain ⟨hw, hA, o2⟩ := hΦ
    replace o9 := o9.adv hA (by decide)
    refine c_nt <| c_seq ?_
    obtain ⟨hc35, hF⟩ := of_guard hF
    obtain ⟨hc37, hF⟩ := of_guard hF
    replace hf : Fr 172 a [(0, vI a0), (5, vI (a1.length : Int)), (6, vv5), (10, .pointer (some ((⟨g9, 0, none⟩ : Addr).add 0))), (43, vI (a1.length : Int)), (44, vI s21)] := hf.sub ⟨rfl, rfl, rfl, rfl, rfl, rfl, trivial⟩
    refine c_drawL (h := 8) mixed (by kernel_rfl) (by kernel_rfl) (fun ρ w => Gd fI64 2 36 ρ w w0.heap.size 2 vv5 f6 ((s22.set s21.toNat (gl 0 s22 (w64 (s21 + x26)))).set (w64 (s21 + x26)).toNat (gl 0 s22 s21)) s23 ∧ Va ρ w 9 g9 3 ([vI s21])) ?_ [fun ρ w v => vI a0 = v, fun ρ w v => vv5 = v, fun ρ w v => vI s21 = v, fun ρ w v => ∃ ad36, .pointer (some (ad36.add (s21.toNat * 1))) = v ∧ (gl 0 ((s22.set s21.toNat (gl 0 s22 (w64 (s21 + x26)))).set (w64 (s21 + x26)).toNat (gl 0 s22 s21)) s21) < s23.length ∧ Ce ρ w 2 vv5 (((s22.set s21.toNat (gl 0 s22 (w64 (s21 + x26)))).set (w64 (s21 + x26)).toNat (gl 0 s22 s21)).length) ad36 (s21.toNat * 1) ([(f6 (gl 0 ((s22.set s21.toNat (gl 0 s22 (w64 (s21 + x26)))).set (w64 (s21 + x26)).toNat (gl 0 s22 s21)) s21)).1]), fun ρ w v => (f6 (gl 0 ((s22.set s21.toNat (gl 0 s22 (w64 (s21 + x26)))).set (w64 (s21 + x26)).toNat (gl 0 s22 s21)) s21)).1 = v ∧ (gl 0 ((s22.set s21.toNat (gl 0 s22 (w64 (s21 + x26)))).set (w64 (s21 + x26)).toNat (gl 0 s22 s21)) s21) < s23.length, fun ρ w v => vI s21 = v, fun ρ w v => ∃ ad38, .pointer (some (ad38.add (s21.toNat * 1))) = v ∧ Ce ρ w (lab 2 (gl 0 ((s22.set s21.toNat (gl 0 s22 (w64 (s21 + x26)))).set (w64 (s21 + x26)).toNat (gl 0 s22 s21)) s21)) ((f6 (gl 0 ((s22.set s21.toNat (gl 0 s22 (w64 (s21 + x26)))).set (w64 (s21 + x26)).toNat (gl 0 s22 s21)) s21)).1) ((s23.getD (gl 0 ((s22.set s21.toNat (gl 0 s22 (w64 (s21 + x26)))).set (w64 (s21 + x26)).toNat (gl 0 s22 s21)) s21) []).length) ad38 (s21.toNat * 1) (fI64.enc (gl 0 (s23.getD (gl 0 ((s22.set s21.toNat (gl 0 s22 (w64 (s21 + x26)))).set (w64 (s21 + x26)).toNat (gl 0 s22 s21)) s21) []) s21)), fun ρ w v => vI (gl 0 (s23.getD (gl 0 ((s22.set s21.toNat (gl 0 s22 (w64 (s21 + x26)))).set (w64 (s21 + x26)).toNat (gl 0 s22 s21)) s21) []) s21) = v] ?_ hw ⟨o2, o9⟩ hf ?_ ?_
    · intro ρ w ρ' w' hE hG
      obtain ⟨o2, o9⟩ := hG
      exact ⟨o2.ext hE, o9.ext hE⟩
    · exact LastsL.cons (fun _ _ _ _ _ _ h => h) <| LastsL.cons (fun _ _ _ _ _ _ h => h) <| LastsL.cons (fun _ _ _ _ _ _ h => h) <| LastsL.cons (fun _ _ _ _ _ hE h => by obtain ⟨ad36, h, hn36, hl36⟩ := h; exact ⟨_, h, hn36, hl36.ext hE⟩) <| LastsL.cons (fun _ _ _ _ _ hE h => by obtain ⟨h, hn36⟩ := h; exact ⟨h, hn36⟩) <| LastsL.cons (fun _ _ _ _ _ _ h => h) <| LastsL.cons (fun _ _ _ _ _ hE h => by obtain ⟨ad38, h, hl38⟩ := h; exact ⟨_, h, hl38.ext hE⟩) <| LastsL.cons (fun _ _ _ _ _ _ h => h) <| LastsL.nil
    · refine StepsB.cons ?_ <| StepsB.cons ?_ <| StepsB.cons ?_ <| StepsB.cons ?_ <| StepsB.cons ?_ <| StepsB.cons ?_ <| StepsB.cons ?_ <| StepsB.cons ?_ <| StepsB.nil
      · intro ρ w a hw hG hf hd K hK
        obtain ⟨o2, o9⟩ := hG
        exact dv_ hK hw (wn rfl) (r_move hf rfl) rfl
      · intro ρ w a hw hG hf hd K hK
        obtain ⟨o2, o9⟩ := hG
        exact dv_ hK hw (wn rfl) (r_move hf rfl) rfl
      · intro ρ w a hw hG hf hd K hK
        obtain ⟨o2, o9⟩ := hG
        exact dv_ hK hw (wn rfl) (r_load_cell ty3 hf rfl o9.cl) rfl
      · intro ρ w a hw hG hf hd K hK
        obtain ⟨o2, o9⟩ := hG
        obtain ⟨_, hf, rfl⟩ := got (hd 1 (by kernel_rfl)) hf
        obtain ⟨_, hf, rfl⟩ := got (hd 2 (by kernel_rfl)) hf
        obtain ⟨ad36, hl36⟩ := Ow.ce (d := fRef f6) o2.out 0 hc35.1 hc35.2
        have hn36 := o2.lt_gl hc35.1 hc35.2
        exact dv_ hK hw (wn rfl) (r_idx Try.underlying24 sz36 hf rfl hl36.at_ rfl hc35.1 hc35.2) (ex_ <| an_ rfl <| an_ hn36 <| hl36)
      · intro ρ w a hw hG hf hd K hK
        obtain ⟨o2, o9⟩ := hG
        obtain ⟨_, hf, ⟨ad36, rfl, hn36, hl36⟩⟩ := got (hd 3 (by kernel_rfl)) hf
        exact dv_ hK hw (wn rfl) (r_load_cell ty36 hf rfl hl36.co.cl) (an_ rfl <| hn36)
      · intro ρ w a hw hG hf hd K hK
        obtain ⟨o2, o9⟩ := hG
        exact dv_ hK hw (wn rfl) (r_load_cell ty3 hf rfl o9.cl) rfl
      · intro ρ w a hw hG hf hd K hK
        obtain ⟨o2, o9⟩ := hG
        obtain ⟨_, hf, ⟨rfl, hn36⟩⟩ := got (hd 4 (by kernel_rfl)) hf
        obtain ⟨_, hf, rfl⟩ := got (hd 5 (by kernel_rfl)) hf
        obtain ⟨ad38, hl38⟩ := Ow.ce (d := fI64) (o2.rowAt hn36) 0 hc37.1 hc37.2
        exact dv_ hK hw (wn rfl) (r_idx Try.underlying36 sz2 hf rfl hl38.at_ rfl hc37.1 hc37.2) (ex_ <| an_ rfl <| hl38)
      · intro ρ w a hw hG hf hd K hK
        obtain ⟨o2, o9⟩ := hG
        obtain ⟨_, hf, ⟨ad38, rfl, hl38⟩⟩ := got (hd 6 (by kernel_rfl)) hf
        exact dv_ hK hw (wn rfl) (r_load_cell ty2 hf rfl hl38.co.cl) rfl
    intro ρ w a hw hG hf hd
    obtain ⟨o2, o9⟩ := hG
    obtain ⟨_, hf, rfl⟩ := got (hd 0 (by decide)) hf
    obtain ⟨_, hf, rfl⟩ := got (hd 7 (by decide)) hf
    obtain ⟨x39, hx40, hF⟩ := of_bind hF
    refine st_fn 23 hw hf rfl rfl (by decide) (r_fn en110 hf rfl) (impl_inverse_ok  hx40) fun a v w ρ hf hw hE hN hΦ => ?_
    obtain rfl := hΦ
    replace o2 := o2.ext hE
    replace o9 := o9.ext hE
    refine s_ hf (r_assign hf rfl) fun a hf => ?_
    refine c_nt <| c_seq <| c_seq <| c_region ?_
    refine s_ hf (r_move hf rfl) fun a hf => ?_
    refine s_ hf (r_load_cell ty3 hf rfl o9.cl) fun a hf => ?_
    obtain ⟨ad41, hl41⟩ := Ow.ce (d := fRef f6) o2.out 0 hc35.1 hc35.2
    have hn41 := o2.lt_gl hc35.1 hc35.2
    refine s_ hf (r_idx Try.underlying24 sz36 hf rfl hl41.at_ rfl hc35.1 hc35.2) fun a hf => ?_
    refine s_ hf (r_load_cell ty36 hf rfl hl41.co.cl) fun a hf => ?_
    refine s_ hf (r_len Try.underlying36 ((o2.rowAt hn41).ro) hf rfl) fun a hf => ?_
    refine s_ hf (r_move hf rfl) fun a hf => ?_
    refine c_nt ?_
    obtain ⟨ol42, ho42, hG42⟩ := of_bind hF
    clear hF
    refine c_block (c_loop (id := 4) (fun s => impl_inverted_l42 a0 s21 s22 s23 x26 x39 s.1 s.2) (fun (s : Int × (List (List Int))) a w => match s with | (s43, s44) => ∃ ρ, Wd w0 ρ w ∧ Fr 172 a [(0, vI a0), (5, vI (a1.length : Int)), (6, vv5), (10, .pointer (some ((⟨g9, 0, none⟩ : Addr).add 0))), (12, vI x39), (43, vI (a1.length : Int)), (44, vI s21), (81, vI ((s23.getD (gl 0 ((s22.set s21.toNat (gl 0 s22 (w64 (s21 + x26)))).set (w64 (s21 + x26)).toNat (gl 0 s22 s21)) s21) []).length : Int)), (82, vI s43)] ∧ Gd fI64 2 36 ρ w w0.heap.size 2 vv5 f6 ((s22.set s21.toNat (gl 0 s22 (w64 (s21 + x26)))).set (w64 (s21 + x26)).toNat (gl 0 s22 s21)) s44 ∧ Va ρ w 9 g9 3 ([vI s21])) (fun (s : Int × (List (List Int))) a w => match s with | (s43, s44) => ∃ ρ, Wd w0 ρ w ∧ Fr 172 a [(0, vI a0), (5, vI (a1.length : Int)), (6, vv5), (10, .pointer (some ((⟨g9, 0, none⟩ : Addr).add 0))), (43, vI (a1.length : Int)), (44, vI s21)] ∧ Gd fI64 2 36 ρ w w0.heap.size 2 vv5 f6 ((s22.set s21.toNat (gl 0 s22 (w64 (s21 + x26)))).set (w64 (s21 + x26)).toNat (gl 0 s22 s21)) s44 ∧ Va ρ w 9 g9 3 ([vI s21])) ho42 ⟨_, hw, hf.sub ⟨rfl, rfl, rfl, rfl, rfl, rfl, rfl, rfl, rfl, trivial⟩, o2, o9⟩ ?_ ?_)
    · rintro ⟨s43, s44⟩ lr a w ⟨ρ, hw, hf, o2, o9⟩ hF
      replace hF : impl_inverted_l42 a0 s21 s22 s23 x26 x39 s43 s44 = some lr := hF
      unfold impl_inverted_l42 at hF
      refine c_seq <| c_region ?_
      refine s_ hf (r_lss hf rfl rfl) fun a hf => ?_
      refine c_nt <| c_seq ?_
      rcases of_ite hF with ⟨hb45, hF⟩ | ⟨hb45, hF⟩
      rotate_left
      · refine c_iff hf rfl hb45 <| c_exit <| x_then ?_
        obtain rfl := Option.some.inj hF
        exact Rnd.stops ⟨_, hw, hf.sub ⟨rfl, rfl, rfl, rfl, rfl, rfl, trivial⟩, o2, o9⟩
      refine c_ift hf rfl hb45 <| c_skip <| n_then <| c_seq <| c_block <| c_seq <| c_region ?_
      refine s_ hf (r_move hf rfl) fun a hf => ?_
      refine s_ hf (r_assign hf rfl) fun a hf => ?_
      refine c_nt ?_
      obtain ⟨hc48, hF⟩ := of_guard hF
      obtain ⟨hc50, hF⟩ := of_guard hF
      replace hf : Fr 172 a [(0, vI a0), (5, vI (a1.length : Int)), (6, vv5), (10, .pointer (some ((⟨g9, 0, none⟩ : Addr).add 0))), (12, vI x39), (13, vI s43), (43, vI (a1.length : Int)), (44, vI s21), (81, vI ((s23.getD (gl 0 ((s22.set s21.toNat (gl 0 s22 (w64 (s21 + x26)))).set (w64 (s21 + x26)).toNat (gl 0 s22 s21)) s21) []).length : Int)), (82, vI s43)] := hf.sub ⟨rfl, rfl, rfl, rfl, rfl, rfl, rfl, rfl, rfl, rfl, trivial⟩
      refine c_drawL (h := 16) mixed (by kernel_rfl) (by kernel_rfl) (fun ρ w => Gd fI64 2 36 ρ w w0.heap.size 2 vv5 f6 ((s22.set s21.toNat (gl 0 s22 (w64 (s21 + x26)))).set (w64 (s21 + x26)).toNat (gl 0 s22 s21)) s44 ∧ Va ρ w 9 g9 3 ([vI s21])) ?_ [fun ρ w v => vv5 = v, fun ρ w v => vI s21 = v, fun ρ w v => ∃ ad46, .pointer (some (ad46.add (s21.toNat * 1))) = v ∧ (gl 0 ((s22.set s21.toNat (gl 0 s22 (w64 (s21 + x26)))).set (w64 (s21 + x26)).toNat (gl 0 s22 s21)) s21) < s44.length ∧ Ce ρ w 2 vv5 (((s22.set s21.toNat (gl 0 s22 (w64 (s21 + x26)))).set (w64 (s21 + x26)).toNat (gl 0 s22 s21)).length) ad46 (s21.toNat * 1) ([(f6 (gl 0 ((s22.set s21.toNat (gl 0 s22 (w64 (s21 + x26)))).set (w64 (s21 + x26)).toNat (gl 0 s22 s21)) s21)).1]), fun ρ w v => (f6 (gl 0 ((s22.set s21.toNat (gl 0 s22 (w64 (s21 + x26)))).set (w64 (s21 + x26)).toNat (gl 0 s22 s21)) s21)).1 = v ∧ (gl 0 ((s22.set s21.toNat (gl 0 s22 (w64 (s21 + x26)))).set (w64 (s21 + x26)).toNat (gl 0 s22 s21)) s21) < s44.length, fun ρ w v => vI s43 = v, fun ρ w v => vv5 = v, fun ρ w v => vI s21 = v, fun ρ w v => ∃ ad47, .pointer (some (ad47.add (s21.toNat * 1))) = v ∧ (gl 0 ((s22.set s21.toNat (gl 0 s22 (w64 (s21 + x26)))).set (w64 (s21 + x26)).toNat (gl 0 s22 s21)) s21) < s44.length ∧ Ce ρ w 2 vv5 (((s22.set s21.toNat (gl 0 s22 (w64 (s21 + x26)))).set (w64 (s21 + x26)).toNat (gl 0 s22 s21)).length) ad47 (s21.toNat * 1) ([(f6 (gl 0 ((s22.set s21.toNat (gl 0 s22 (w64 (s21 + x26)))).set (w64 (s21 + x26)).toNat (gl 0 s22 s21)) s21)).1]), fun ρ w v => (f6 (gl 0 ((s22.set s21.toNat (gl 0 s22 (w64 (s21 + x26)))).set (w64 (s21 + x26)).toNat (gl 0 s22 s21)) s21)).1 = v ∧ (gl 0 ((s22.set s21.toNat (gl 0 s22 (w64 (s21 + x26)))).set (w64 (s21 + x26)).toNat (gl 0 s22 s21)) s21) < s44.length, fun ρ w v => vI s43 = v, fun ρ w v => ∃ ad49, .pointer (some (ad49.add (s43.toNat * 1))) = v ∧ Ce ρ w (lab 2 (gl 0 ((s22.set s21.toNat (gl 0 s22 (w64 (s21 + x26)))).set (w64 (s21 + x26)).toNat (gl 0 s22 s21)) s21)) ((f6 (gl 0 ((s22.set s21.toNat (gl 0 s22 (w64 (s21 + x26)))).set (w64 (s21 + x26)).toNat (gl 0 s22 s21)) s21)).1) ((s44.getD (gl 0 ((s22.set s21.toNat (gl 0 s22 (w64 (s21 + x26)))).set (w64 (s21 + x26)).toNat (gl 0 s22 s21)) s21) []).length) ad49 (s43.toNat * 1) (fI64.enc (gl 0 (s44.getD (gl 0 ((s22.set s21.toNat (gl 0 s22 (w64 (s21 + x26)))).set (w64 (s21 + x26)).toNat (gl 0 s22 s21)) s21) []) s43)), fun ρ w v => vI (gl 0 (s44.getD (gl 0 ((s22.set s21.toNat (gl 0 s22 (w64 (s21 + x26)))).set (w64 (s21 + x26)).toNat (gl 0 s22 s21)) s21) []) s43) = v, fun ρ w v => vI x39 = v, fun ρ w v => vI (w64 ((gl 0 (s44.getD (gl 0 ((s22.set s21.toNat (gl 0 s22 (w64 (s21 + x26)))).set (w64 (s21 + x26)).toNat (gl 0 s22 s21)) s21) []) s43) * x39)) = v, fun ρ w v => vI a0 = v, fun ρ w v => vI ((w64 ((gl 0 (s44.getD (gl 0 ((s22.set s21.toNat (gl 0 s22 (w64 (s21 + x26)))).set (w64 (s21 + x26)).toNat (gl 0 s22 s21)) s21) []) s43) * x39)).tmod a0) = v] ?_ hw ⟨o2, o9⟩ hf ?_ ?_
      · intro ρ w ρ' w' hE hG
        obtain ⟨o2, o9⟩ := hG
        exact ⟨o2.ext hE, o9.ext hE⟩
      · exact LastsL.cons (fun _ _ _ _ _ _ h => h) <| LastsL.cons (fun _ _ _ _ _ _ h => h) <| LastsL.cons (fun _ _ _ _ _ hE h => by obtain ⟨ad46, h, hn46, hl46⟩ := h; exact ⟨_, h, hn46, hl46.ext hE⟩) <| LastsL.cons (fun _ _ _ _ _ hE h => by obtain ⟨h, hn46⟩ := h; exact ⟨h, hn46⟩) <| LastsL.cons (fun _ _ _ _ _ _ h => h) <| LastsL.cons (fun _ _ _ _ _ _ h => h) <| LastsL.cons (fun _ _ _ _ _ _ h => h) <| LastsL.cons (fun _ _ _ _ _ hE h => by obtain ⟨ad47, h, hn47, hl47⟩ := h; exact ⟨_, h, hn47, hl47.ext hE⟩) <| LastsL.cons (fun _ _ _ _ _ hE h => by obtain ⟨h, hn47⟩ := h; exact ⟨h, hn47⟩) <| LastsL.cons (fun _ _ _ _ _ _ h => h) <| LastsL.cons (fun _ _ _ _ _ hE h => by obtain ⟨ad49, h, hl49⟩ := h; exact ⟨_, h, hl49.ext hE⟩) <| LastsL.cons (fun _ _ _ _ _ _ h => h) <| LastsL.cons (fun _ _ _ _ _ _ h => h) <| LastsL.cons (fun _ _ _ _ _ _ h => h) <| LastsL.cons (fun _ _ _ _ _ _ h => h) <| LastsL.cons (fun _ _ _ _ _ _ h => h) <| LastsL.nil
      · refine StepsB.cons ?_ <| StepsB.cons ?_ <| StepsB.cons ?_ <| StepsB.cons ?_ <| StepsB.cons ?_ <| StepsB.cons ?_ <| StepsB.cons ?_ <| StepsB.cons ?_ <| StepsB.cons ?_ <| StepsB.cons ?_ <| StepsB.cons ?_ <| StepsB.cons ?_ <| StepsB.cons ?_ <| StepsB.cons ?_ <| StepsB.cons ?_ <| StepsB.cons ?_ <| StepsB.nil
        · intro ρ w a hw hG hf hd K hK
          obtain ⟨o2, o9⟩ := hG
          exact dv_ hK hw (wn rfl) (r_move hf rfl) rfl
        · intro ρ w a hw hG hf hd K hK
          obtain ⟨o2, o9⟩ := hG
          exact dv_ hK hw (wn rfl) (r_load_cell ty3 hf rfl o9.cl) rfl
        · intro ρ w a hw hG hf hd K hK
          obtain ⟨o2, o9⟩ := hG
          obtain ⟨_, hf, rfl⟩ := got (hd 0 (by kernel_rfl)) hf
          obtain ⟨_, hf, rfl⟩ := got (hd 1 (by kernel_rfl)) hf
          obtain ⟨ad46, hl46⟩ := Ow.ce (d := fRef f6) o2.out 0 hc35.1 hc35.2
          have hn46 := o2.lt_gl hc35.1 hc35.2
          exact dv_ hK hw (wn rfl) (r_idx Try.underlying24 sz36 hf rfl hl46.at_ rfl hc35.1 hc35.2) (ex_ <| an_ rfl <| an_ hn46 <| hl46)
        · intro ρ w a hw hG hf hd K hK
          obtain ⟨o2, o9⟩ := hG
          obtain ⟨_, hf, ⟨ad46, rfl, hn46, hl46⟩⟩ := got (hd 2 (by kernel_rfl)) hf
          exact dv_ hK hw (wn rfl) (r_load_cell ty36 hf rfl hl46.co.cl) (an_ rfl <| hn46)
        · intro ρ w a hw hG hf hd K hK
          obtain ⟨o2, o9⟩ := hG
          exact dv_ hK hw (wn rfl) (r_move hf rfl) rfl
        · intro ρ w a hw hG hf hd K hK
          obtain ⟨o2, o9⟩ := hG
          exact dv_ hK hw (wn rfl) (r_move hf rfl) rfl
        · intro ρ w a hw hG hf hd K hK
          obtain ⟨o2, o9⟩ := hG
          exact dv_ hK hw (wn rfl) (r_load_cell ty3 hf rfl o9.cl) rfl
        · intro ρ w a hw hG hf hd K hK
          obtain ⟨o2, o9⟩ := hG
          obtain ⟨_, hf, rfl⟩ := got (hd 5 (by kernel_rfl)) hf
          obtain ⟨_, hf, rfl⟩ := got (hd 6 (by kernel_rfl)) hf
          obtain ⟨ad47, hl47⟩ := Ow.ce (d := fRef f6) o2.out 0 hc35.1 hc35.2
          have hn47 := o2.lt_gl hc35.1 hc35.2
          exact dv_ hK hw (wn rfl) (r_idx Try.underlying24 sz36 hf rfl hl47.at_ rfl hc35.1 hc35.2) (ex_ <| an_ rfl <| an_ hn47 <| hl47)
        · intro ρ w a hw hG hf hd K hK
          obtain ⟨o2, o9⟩ := hG
          obtain ⟨_, hf, ⟨ad47, rfl, hn47, hl47⟩⟩ := got (hd 7 (by kernel_rfl)) hf
          exact dv_ hK hw (wn rfl) (r_load_cell ty36 hf rfl hl47.co.cl) (an_ rfl <| hn47)
        · intro ρ w a hw hG hf hd K hK
          obtain ⟨o2, o9⟩ := hG
          exact dv_ hK hw (wn rfl) (r_move hf rfl) rfl
        · intro ρ w a hw hG hf hd K hK
          obtain ⟨o2, o9⟩ := hG
          obtain ⟨_, hf, ⟨rfl, hn47⟩⟩ := got (hd 8 (by kernel_rfl)) hf
          obtain ⟨_, hf, rfl⟩ := got (hd 9 (by kernel_rfl)) hf
          obtain ⟨ad49, hl49⟩ := Ow.ce (d := fI64) (o2.rowAt hn47) 0 hc48.1 hc48.2
          exact dv_ hK hw (wn rfl) (r_idx Try.underlying36 sz2 hf rfl hl49.at_ rfl hc48.1 hc48.2) (ex_ <| an_ rfl <| hl49)
        · intro ρ w a hw hG hf hd K hK
          obtain ⟨o2, o9⟩ := hG
          obtain ⟨_, hf, ⟨ad49, rfl, hl49⟩⟩ := got (hd 10 (by kernel_rfl)) hf
          exact dv_ hK hw (wn rfl) (r_load_cell ty2 hf rfl hl49.co.cl) rfl
        · intro ρ w a hw hG hf hd K hK
          obtain ⟨o2, o9⟩ := hG
          exact dv_ hK hw (wn rfl) (r_move hf rfl) rfl
        · intro ρ w a hw hG hf hd K hK
          obtain ⟨o2, o9⟩ := hG
          obtain ⟨_, hf, rfl⟩ := got (hd 11 (by kernel_rfl)) hf
          obtain ⟨_, hf, rfl⟩ := got (hd 12 (by kernel_rfl)) hf
          exact dv_ hK hw (wn rfl) (r_mul hf rfl rfl) rfl
        · intro ρ w a hw hG hf hd K hK
          obtain ⟨o2, o9⟩ := hG
          exact dv_ hK hw (wn rfl) (r_move hf rfl) rfl
        · intro ρ w a hw hG hf hd K hK
          obtain ⟨o2, o9⟩ := hG
          obtain ⟨_, hf, rfl⟩ := got (hd 13 (by kernel_rfl)) hf
          obtain ⟨_, hf, rfl⟩ := got (hd 14 (by kernel_rfl)) hf
          exact dv_ hK hw (wn rfl) (r_rem hf rfl rfl hc50) rfl
      intro ρ w a hw hG hf hd
      obtain ⟨o2, o9⟩ := hG
      obtain ⟨_, hf, ⟨rfl, hn46⟩⟩ := got (hd 3 (by decide)) hf
      obtain ⟨_, hf, rfl⟩ := got (hd 4 (by decide)) hf
      obtain ⟨_, hf, rfl⟩ := got (hd 15 (by decide)) hf
      obtain ⟨ad51, hl51⟩ := Ow.ce (d := fI64) (o2.rowAt hn46) 0 hc48.1 hc48.2
      refine s_ hf (r_idx Try.underlying36 sz2 hf rfl hl51.at_ rfl hc48.1 hc48.2) fun a hf => ?_
      refine sk_ hf (r_gcell (p := s43) (b := (w64 ((gl 0 (s44.getD (gl 0 ((s22.set s21.toNat (gl 0 s22 (w64 (s21 + x26)))).set (w64 (s21 + x26)).toNat (gl 0 s22 s21)) s21) []) s43) * x39)).tmod a0) 0 hw o2 hc48.1 hc48.2 (Lens.id _) hl51.at_ ty2 (by first | rfl | exact Nat.add_assoc _ _ _ | (simp only [Nat.add_assoc]; rfl)) hf rfl rfl rfl) fun a w hf hΦ => ?_
      obtain ⟨hw, hA, o2⟩ := hΦ
      replace o9 := o9.adv hA (by unfold lab; omega)
      replace hn46 : (gl 0 ((s22.set s21.toNat (gl 0 s22 (w64 (s21 + x26)))).set (w64 (s21 + x26)).toNat (gl 0 s22 s21)) s21) < (s44.set (gl 0 ((s22.set s21.toNat (gl 0 s22 (w64 (s21 + x26)))).set (w64 (s21 + x26)).toNat (gl 0 s22 s21)) s21) ((s44.getD (gl 0 ((s22.set s21.toNat (gl 0 s22 (w64 (s21 + x26)))).set (w64 (s21 + x26)).toNat (gl 0 s22 s21)) s21) []).set s43.toNat ((w64 ((gl 0 (s44.getD (gl 0 ((s22.set s21.toNat (gl 0 s22 (w64 (s21 + x26)))).set (w64 (s21 + x26)).toNat (gl 0 s22 s21)) s21) []) s43) * x39)).tmod a0))).length := Nat.lt_of_lt_of_le hn46 (by simp only [List.length_append, List.length_set] <;> omega)
      refine c_nil <| n_block <| n_then <| c_region ?_
      refine s_ hf (r_add hf rfl rfl) fun a hf => ?_
      refine s_ hf (r_move hf rfl) fun a hf => ?_
      refine c_nil ?_
      obtain rfl := Option.some.inj hF
      exact Rnd.goes ⟨_, hw, hf.sub ⟨rfl, rfl, rfl, rfl, rfl, rfl, rfl, rfl, rfl, trivial⟩, o2, o9⟩
    rintro ⟨s43, s44⟩ a w hs ⟨ρ, hw, hf, o2, o9⟩
    subst hs
    have hF := hG42
    dsimp only at hF
    refine x_block <| n_then <| c_seq <| c_region ?_
    refine s_ hf (r_move hf rfl) fun a hf => ?_
    refine s_ hf (r_len Try.underlying24 o2.out.ro hf rfl) fun a hf => ?_
    refine s_ hf (r_move hf rfl) fun a hf => ?_
    refine c_nt ?_
    obtain ⟨ol52, ho52, hG52⟩ := of_bind hF
    clear hF
    refine c_block (c_loop (id := 6) (fun s => impl_inverted_l52 a0 s21 s22 x26 s.1 s.2) (fun (s : Int × (List (List Int))) a w => match s with | (s53, s54) => ∃ ρ, Wd w0 ρ w ∧ Fr 172 a [(0, vI a0), (5, vI (a1.length : Int)), (6, vv5), (10, .pointer (some ((⟨g9, 0, none⟩ : Addr).add 0))), (43, vI (a1.length : Int)), (44, vI s21), (104, vI (((s22.set s21.toNat (gl 0 s22 (w64 (s21 + x26)))).set (w64 (s21 + x26)).toNat (gl 0 s22 s21)).length : Int)), (105, vI s53)] ∧ Gd fI64 2 36 ρ w w0.heap.size 2 vv5 f6 ((s22.set s21.toNat (gl 0 s22 (w64 (s21 + x26)))).set (w64 (s21 + x26)).toNat (gl 0 s22 s21)) s54 ∧ Va ρ w 9 g9 3 ([vI s21])) (fun (s : Int × (List (List Int))) a w => match s with | (s53, s54) => ∃ ρ, Wd w0 ρ w ∧ Fr 172 a [(0, vI a0), (5, vI (a1.length : Int)), (6, vv5), (43, vI (a1.length : Int)), (44, vI s21)] ∧ Gd fI64 2 36 ρ w w0.heap.size 2 vv5 f6 ((s22.set s21.toNat (gl 0 s22 (w64 (s21 + x26)))).set (w64 (s21 + x26)).toNat (gl 0 s22 s21)) s54) ho52 ⟨_, hw, hf.sub ⟨rfl, rfl, rfl, rfl, rfl, rfl, rfl, rfl, trivial⟩, o2, o9⟩ ?_ ?_)
    · rintro ⟨s53, s54⟩ lr a w ⟨ρ, hw, hf, o2, o9⟩ hF
      replace hF : impl_inverted_l52 a0 s21 s22 x26 s53 s54 = some lr := hF
      unfold impl_inverted_l52 at hF
      refine c_seq <| c_region ?_
      refine s_ hf (r_lss hf rfl rfl) fun a hf => ?_
      refine c_nt <| c_seq ?_
      rcases of_ite hF with ⟨hb55, hF⟩ | ⟨hb55, hF⟩
      rotate_left
      · refine c_iff hf rfl hb55 <| c_exit <| x_then ?_
        obtain rfl := Option.some.inj hF
        exact Rnd.stops ⟨_, hw, hf.sub ⟨rfl, rfl, rfl, rfl, rfl, trivial⟩, o2⟩
      refine c_ift hf rfl hb55 <| c_skip <| n_then <| c_seq <| c_block <| c_seq <| c_region ?_
      refine s_ hf (r_move hf rfl) fun a hf => ?_
      refine s_ hf (r_assign hf rfl) fun a hf => ?_
      refine c_nt <| c_seq <| c_seq <| c_region ?_
      refine s_ hf (r_move hf rfl) fun a hf => ?_
      refine s_ hf (r_load_cell ty3 hf rfl o9.cl) fun a hf => ?_
      refine s_ hf (r_eql hf rfl rfl) fun a hf => ?_
      refine c_nt ?_
      rcases of_ite hF with ⟨hb56, hF⟩ | ⟨hb56, hF⟩
      · refine c_ift hf rfl hb56 <| c_exit <| x_then <| x_block <| n_then <| c_region ?_
        refine s_ hf (r_add hf rfl rfl) fun a hf => ?_
        refine s_ hf (r_move hf rfl) fun a hf => ?_
        refine c_nil ?_
        obtain rfl := Option.some.inj hF
        exact Rnd.goes ⟨_, hw, hf.sub ⟨rfl, rfl, rfl, rfl, rfl, rfl, rfl, rfl, trivial⟩, o2, o9⟩
      refine c_iff hf rfl hb56 <| c_skip <| n_then <| c_seq ?_
      obtain ⟨hc57, hF⟩ := of_guard hF
      replace hf : Fr 172 a [(0, vI a0), (5, vI (a1.length : Int)), (6, vv5), (10, .pointer (some ((⟨g9, 0, none⟩ : Addr).add 0))), (14, vI s53), (43, vI (a1.length : Int)), (44, vI s21), (104, vI (((s22.set s21.toNat (gl 0 s22 (w64 (s21 + x26)))).set (w64 (s21 + x26)).toNat (gl 0 s22 s21)).length : Int)), (105, vI s53)] := hf.sub ⟨rfl, rfl, rfl, rfl, rfl, rfl, rfl, rfl, rfl, trivial⟩
      refine c_drawL (h := 5) mixed (by kernel_rfl) (by kernel_rfl) (fun ρ w => Gd fI64 2 36 ρ w w0.heap.size 2 vv5 f6 ((s22.set s21.toNat (gl 0 s22 (w64 (s21 + x26)))).set (w64 (s21 + x26)).toNat (gl 0 s22 s21)) s54 ∧ Va ρ w 9 g9 3 ([vI s21])) ?_ [fun ρ w v => vv5 = v, fun ρ w v => vI s53 = v, fun ρ w v => ∃ ad58, .pointer (some (ad58.add (s53.toNat * 1))) = v ∧ (gl 0 ((s22.set s21.toNat (gl 0 s22 (w64 (s21 + x26)))).set (w64 (s21 + x26)).toNat (gl 0 s22 s21)) s53) < s54.length ∧ Ce ρ w 2 vv5 (((s22.set s21.toNat (gl 0 s22 (w64 (s21 + x26)))).set (w64 (s21 + x26)).toNat (gl 0 s22 s21)).length) ad58 (s53.toNat * 1) ([(f6 (gl 0 ((s22.set s21.toNat (gl 0 s22 (w64 (s21 + x26)))).set (w64 (s21 + x26)).toNat (gl 0 s22 s21)) s53)).1]), fun ρ w v => (f6 (gl 0 ((s22.set s21.toNat (gl 0 s22 (w64 (s21 + x26)))).set (w64 (s21 + x26)).toNat (gl 0 s22 s21)) s53)).1 = v ∧ (gl 0 ((s22.set s21.toNat (gl 0 s22 (w64 (s21 + x26)))).set (w64 (s21 + x26)).toNat (gl 0 s22 s21)) s53) < s54.length, fun ρ w v => vI s21 = v] ?_ hw ⟨o2, o9⟩ hf ?_ ?_
      · intro ρ w ρ' w' hE hG
        obtain ⟨o2, o9⟩ := hG
        exact ⟨o2.ext hE, o9.ext hE⟩
      · exact LastsL.cons (fun _ _ _ _ _ _ h => h) <| LastsL.cons (fun _ _ _ _ _ _ h => h) <| LastsL.cons (fun _ _ _ _ _ hE h => by obtain ⟨ad58, h, hn58, hl58⟩ := h; exact ⟨_, h, hn58, hl58.ext hE⟩) <| LastsL.cons (fun _ _ _ _ _ hE h => by obtain ⟨h, hn58⟩ := h; exact ⟨h, hn58⟩) <| LastsL.cons (fun _ _ _ _ _ _ h => h) <| LastsL.nil
      · refine StepsB.cons ?_ <| StepsB.cons ?_ <| StepsB.cons ?_ <| StepsB.cons ?_ <| StepsB.cons ?_ <| StepsB.nil
        · intro ρ w a hw hG hf hd K hK
          obtain ⟨o2, o9⟩ := hG
          exact dv_ hK hw (wn rfl) (r_move hf rfl) rfl
        · intro ρ w a hw hG hf hd K hK
          obtain ⟨o2, o9⟩ := hG
          exact dv_ hK hw (wn rfl) (r_move hf rfl) rfl
        · intro ρ w a hw hG hf hd K hK
          obtain ⟨o2, o9⟩ := hG
          obtain ⟨_, hf, rfl⟩ := got (hd 0 (by kernel_rfl)) hf
          obtain ⟨_, hf, rfl⟩ := got (hd 1 (by kernel_rfl)) hf
          obtain ⟨ad58, hl58⟩ := Ow.ce (d := fRef f6) o2.out 0 hc57.1 hc57.2
          have hn58 := o2.lt_gl hc57.1 hc57.2
          exact dv_ hK hw (wn rfl) (r_idx Try.underlying24 sz36 hf rfl hl58.at_ rfl hc57.1 hc57.2) (ex_ <| an_ rfl <| an_ hn58 <| hl58)
        · intro ρ w a hw hG hf hd K hK
          obtain ⟨o2, o9⟩ := hG
          obtain ⟨_, hf, ⟨ad58, rfl, hn58, hl58⟩⟩ := got (hd 2 (by kernel_rfl)) hf
          exact dv_ hK hw (wn rfl) (r_load_cell ty36 hf rfl hl58.co.cl) (an_ rfl <| hn58)
        · intro ρ w a hw hG hf hd K hK
          obtain ⟨o2, o9⟩ := hG
          exact dv_ hK hw (wn rfl) (r_load_cell ty3 hf rfl o9.cl) rfl
      intro ρ w a hw hG hf hd
      obtain ⟨o2, o9⟩ := hG
      obtain ⟨_, hf, ⟨rfl, hn58⟩⟩ := got (hd 3 (by decide)) hf
      obtain ⟨_, hf, rfl⟩ := got (hd 4 (by decide)) hf
      obtain ⟨hc59, hF⟩ := of_guard hF
      obtain ⟨ad60, hl60⟩ := Ow.ce (d := fI64) (o2.rowAt hn58) 0 hc59.1 hc59.2
      refine s_ hf (r_idx Try.underlying36 sz2 hf rfl hl60.at_ rfl hc59.1 hc59.2) fun a hf => ?_
      refine s_ hf (r_load_cell ty2 hf rfl hl60.co.cl) fun a hf => ?_
      refine s_ hf (r_assign hf rfl) fun a hf => ?_
      refine c_nt <| c_seq <| c_region ?_
      refine s_ hf (r_move hf rfl) fun a hf => ?_
      refine s_ hf (r_move hf rfl) fun a hf => ?_
      obtain ⟨ad61, hl61⟩ := Ow.ce (d := fRef f6) o2.out 0 hc57.1 hc57.2
      have hn61 := o2.lt_gl hc57.1 hc57.2
      refine s_ hf (r_idx Try.underlying24 sz36 hf rfl hl61.at_ rfl hc57.1 hc57.2) fun a hf => ?_
      refine s_ hf (r_load_cell ty36 hf rfl hl61.co.cl) fun a hf => ?_
      refine s_ hf (r_len Try.underlying36 ((o2.rowAt hn61).ro) hf rfl) fun a hf => ?_
      refine s_ hf (r_move hf rfl) fun a hf => ?_
      refine c_nt ?_
      obtain ⟨ol62, ho62, hG62⟩ := of_bind hF
      clear hF
      refine c_block (c_loop (id := 8) (fun s => impl_inverted_l62 a0 s21 s22 x26 s53 s54 s.1 s.2) (fun (s : Int × (List (List Int))) a w => match s with | (s63, s64) => ∃ ρ, Wd w0 ρ w ∧ Fr 172 a [(0, vI a0), (5, vI (a1.length : Int)), (6, vv5), (10, .pointer (some ((⟨g9, 0, none⟩ : Addr).add 0))), (14, vI s53), (15, vI (gl 0 (s54.getD (gl 0 ((s22.set s21.toNat (gl 0 s22 (w64 (s21 + x26)))).set (w64 (s21 + x26)).toNat (gl 0 s22 s21)) s53) []) s21)), (43, vI (a1.length : Int)), (44, vI s21), (104, vI (((s22.set s21.toNat (gl 0 s22 (w64 (s21 + x26)))).set (w64 (s21 + x26)).toNat (gl 0 s22 s21)).length : Int)), (105, vI s53), (122, vI ((s54.getD (gl 0 ((s22.set s21.toNat (gl 0 s22 (w64 (s21 + x26)))).set (w64 (s21 + x26)).toNat (gl 0 s22 s21)) s53) []).length : Int)), (123, vI s63)] ∧ Gd fI64 2 36 ρ w w0.heap.size 2 vv5 f6 ((s22.set s21.toNat (gl 0 s22 (w64 (s21 + x26)))).set (w64 (s21 + x26)).toNat (gl 0 s22 s21)) s64 ∧ Va ρ w 9 g9 3 ([vI s21])) (fun (s : Int × (List (List Int))) a w => match s with | (s63, s64) => ∃ ρ, Wd w0 ρ w ∧ Fr 172 a [(0, vI a0), (5, vI (a1.length : Int)), (6, vv5), (10, .pointer (some ((⟨g9, 0, none⟩ : Addr).add 0))), (43, vI (a1.length : Int)), (44, vI s21), (104, vI (((s22.set s21.toNat (gl 0 s22 (w64 (s21 + x26)))).set (w64 (s21 + x26)).toNat (gl 0 s22 s21)).length : Int)), (105, vI s53)] ∧ Gd fI64 2 36 ρ w w0.heap.size 2 vv5 f6 ((s22.set s21.toNat (gl 0 s22 (w64 (s21 + x26)))).set (w64 (s21 + x26)).toNat (gl 0 s22 s21)) s64 ∧ Va ρ w 9 g9 3 ([vI s21])) ho62 ⟨_, hw, hf.sub ⟨rfl, rfl, rfl, rfl, rfl, rfl, rfl, rfl, rfl, rfl, rfl, rfl, trivial⟩, o2, o9⟩ ?_ ?_)
      · rintro ⟨s63, s64⟩ lr a w ⟨ρ, hw, hf, o2, o9⟩ hF
        replace hF : impl_inverted_l62 a0 s21 s22 x26 s53 s54 s63 s64 = some lr := hF
        unfold impl_inverted_l62 at hF
        refine c_seq <| c_region ?_
        refine s_ hf (r_lss hf rfl rfl) fun a hf => ?_
        refine c_nt <| c_seq ?_
        rcases of_ite hF with ⟨hb65, hF⟩ | ⟨hb65, hF⟩
        rotate_left
        · refine c_iff hf rfl hb65 <| c_exit <| x_then ?_
          obtain rfl := Option.some.inj hF
          exact Rnd.stops ⟨_, hw, hf.sub ⟨rfl, rfl, rfl, rfl, rfl, rfl, rfl, rfl, trivial⟩, o2, o9⟩
        refine c_ift hf rfl hb65 <| c_skip <| n_then <| c_seq <| c_block <| c_seq <| c_region ?_
        refine s_ hf (r_move hf rfl) fun a hf => ?_
        refine s_ hf (r_assign hf rfl) fun a hf => ?_
        refine c_nt ?_
        obtain ⟨hc68, hF⟩ := of_guard hF
        obtain ⟨hc71, hF⟩ := of_guard hF
        obtain ⟨hc73, hF⟩ := of_guard hF
        replace hf : Fr 172 a [(0, vI a0), (5, vI (a1.length : Int)), (6, vv5), (10, .pointer (some ((⟨g9, 0, none⟩ : Addr).add 0))), (14, vI s53), (15, vI (gl 0 (s54.getD (gl 0 ((s22.set s21.toNat (gl 0 s22 (w64 (s21 + x26)))).set (w64 (s21 + x26)).toNat (gl 0 s22 s21)) s53) []) s21)), (16, vI s63), (43, vI (a1.length : Int)), (44, vI s21), (104, vI (((s22.set s21.toNat (gl 0 s22 (w64 (s21 + x26)))).set (w64 (s21 + x26)).toNat (gl 0 s22 s21)).length : Int)), (105, vI s53), (122, vI ((s54.getD (gl 0 ((s22.set s21.toNat (gl 0 s22 (w64 (s21 + x26)))).set (w64 (s21 + x26)).toNat (gl 0 s22 s21)) s53) []).length : Int)), (123, vI s63)] := hf.sub ⟨rfl, rfl, rfl, rfl, rfl, rfl, rfl, rfl, rfl, rfl, rfl, rfl, rfl, trivial⟩
        refine c_drawL (h := 26) mixed (by kernel_rfl) (by kernel_rfl) (fun ρ w => Gd fI64 2 36 ρ w w0.heap.size 2 vv5 f6 ((s22.set s21.toNat (gl 0 s22 (w64 (s21 + x26)))).set (w64 (s21 + x26)).toNat (gl 0 s22 s21)) s64 ∧ Va ρ w 9 g9 3 ([vI s21])) ?_ [fun ρ w v => vv5 = v, fun ρ w v => vI s53 = v, fun ρ w v => ∃ ad66, .pointer (some (ad66.add (s53.toNat * 1))) = v ∧ (gl 0 ((s22.set s21.toNat (gl 0 s22 (w64 (s21 + x26)))).set (w64 (s21 + x26)).toNat (gl 0 s22 s21)) s53) < s64.length ∧ Ce ρ w 2 vv5 (((s22.set s21.toNat (gl 0 s22 (w64 (s21 + x26)))).set (w64 (s21 + x26)).toNat (gl 0 s22 s21)).length) ad66 (s53.toNat * 1) ([(f6 (gl 0 ((s22.set s21.toNat (gl 0 s22 (w64 (s21 + x26)))).set (w64 (s21 + x26)).toNat (gl 0 s22 s21)) s53)).1]), fun ρ w v => (f6 (gl 0 ((s22.set s21.toNat (gl 0 s22 (w64 (s21 + x26)))).set (w64 (s21 + x26)).toNat (gl 0 s22 s21)) s53)).1 = v ∧ (gl 0 ((s22.set s21.toNat (gl 0 s22 (w64 (s21 + x26)))).set (w64 (s21 + x26)).toNat (gl 0 s22 s21)) s53) < s64.length, fun ρ w v => vI s63 = v, fun ρ w v => vv5 = v, fun ρ w v => vI s53 = v, fun ρ w v => ∃ ad67, .pointer (some (ad67.add (s53.toNat * 1))) = v ∧ (gl 0 ((s22.set s21.toNat (gl 0 s22 (w64 (s21 + x26)))).set (w64 (s21 + x26)).toNat (gl 0 s22 s21)) s53) < s64.length ∧ Ce ρ w 2 vv5 (((s22.set s21.toNat (gl 0 s22 (w64 (s21 + x26)))).set (w64 (s21 + x26)).toNat (gl 0 s22 s21)).length) ad67 (s53.toNat * 1) ([(f6 (gl 0 ((s22.set s21.toNat (gl 0 s22 (w64 (s21 + x26)))).set (w64 (s21 + x26)).toNat (gl 0 s22 s21)) s53)).1]), fun ρ w v => (f6 (gl 0 ((s22.set s21.toNat (gl 0 s22 (w64 (s21 + x26)))).set (w64 (s21 + x26)).toNat (gl 0 s22 s21)) s53)).1 = v ∧ (gl 0 ((s22.set s21.toNat (gl 0 s22 (w64 (s21 + x26)))).set (w64 (s21 + x26)).toNat (gl 0 s22 s21)) s53) < s64.length, fun ρ w v => vI s63 = v, fun ρ w v => ∃ ad69, .pointer (some (ad69.add (s63.toNat * 1))) = v ∧ Ce ρ w (lab 2 (gl 0 ((s22.set s21.toNat (gl 0 s22 (w64 (s21 + x26)))).set (w64 (s21 + x26)).toNat (gl 0 s22 s21)) s53)) ((f6 (gl 0 ((s22.set s21.toNat (gl 0 s22 (w64 (s21 + x26)))).set (w64 (s21 + x26)).toNat (gl 0 s22 s21)) s53)).1) ((s64.getD (gl 0 ((s22.set s21.toNat (gl 0 s22 (w64 (s21 + x26)))).set (w64 (s21 + x26)).toNat (gl 0 s22 s21)) s53) []).length) ad69 (s63.toNat * 1) (fI64.enc (gl 0 (s64.getD (gl 0 ((s22.set s21.toNat (gl 0 s22 (w64 (s21 + x26)))).set (w64 (s21 + x26)).toNat (gl 0 s22 s21)) s53) []) s63)), fun ρ w v => vI (gl 0 (s64.getD (gl 0 ((s22.set s21.toNat (gl 0 s22 (w64 (s21 + x26)))).set (w64 (s21 + x26)).toNat (gl 0 s22 s21)) s53) []) s63) = v, fun ρ w v => vI a0 = v, fun ρ w v => vI (gl 0 (s54.getD (gl 0 ((s22.set s21.toNat (gl 0 s22 (w64 (s21 + x26)))).set (w64 (s21 + x26)).toNat (gl 0 s22 s21)) s53) []) s21) = v, fun ρ w v => vI (w64 (a0 - (gl 0 (s54.getD (gl 0 ((s22.set s21.toNat (gl 0 s22 (w64 (s21 + x26)))).set (w64 (s21 + x26)).toNat (gl 0 s22 s21)) s53) []) s21))) = v, fun ρ w v => vv5 = v, fun ρ w v => vI s21 = v, fun ρ w v => ∃ ad70, .pointer (some (ad70.add (s21.toNat * 1))) = v ∧ (gl 0 ((s22.set s21.toNat (gl 0 s22 (w64 (s21 + x26)))).set (w64 (s21 + x26)).toNat (gl 0 s22 s21)) s21) < s64.length ∧ Ce ρ w 2 vv5 (((s22.set s21.toNat (gl 0 s22 (w64 (s21 + x26)))).set (w64 (s21 + x26)).toNat (gl 0 s22 s21)).length) ad70 (s21.toNat * 1) ([(f6 (gl 0 ((s22.set s21.toNat (gl 0 s22 (w64 (s21 + x26)))).set (w64 (s21 + x26)).toNat (gl 0 s22 s21)) s21)).1]), fun ρ w v => (f6 (gl 0 ((s22.set s21.toNat (gl 0 s22 (w64 (s21 + x26)))).set (w64 (s21 + x26)).toNat (gl 0 s22 s21)) s21)).1 = v ∧ (gl 0 ((s22.set s21.toNat (gl 0 s22 (w64 (s21 + x26)))).set (w64 (s21 + x26)).toNat (gl 0 s22 s21)) s21) < s64.length, fun ρ w v => vI s63 = v, fun ρ w v => ∃ ad72, .pointer (some (ad72.add (s63.toNat * 1))) = v ∧ Ce ρ w (lab 2 (gl 0 ((s22.set s21.toNat (gl 0 s22 (w64 (s21 + x26)))).set (w64 (s21 + x26)).toNat (gl 0 s22 s21)) s21)) ((f6 (gl 0 ((s22.set s21.toNat (gl 0 s22 (w64 (s21 + x26)))).set (w64 (s21 + x26)).toNat (gl 0 s22 s21)) s21)).1) ((s64.getD (gl 0 ((s22.set s21.toNat (gl 0 s22 (w64 (s21 + x26)))).set (w64 (s21 + x26)).toNat (gl 0 s22 s21)) s21) []).length) ad72 (s63.toNat * 1) (fI64.enc (gl 0 (s64.getD (gl 0 ((s22.set s21.toNat (gl 0 s22 (w64 (s21 + x26)))).set (w64 (s21 + x26)).toNat (gl 0 s22 s21)) s21) []) s63)), fun ρ w v => vI (gl 0 (s64.getD (gl 0 ((s22.set s21.toNat (gl 0 s22 (w64 (s21 + x26)))).set (w64 (s21 + x26)).toNat (gl 0 s22 s21)) s21) []) s63) = v, fun ρ w v => vI (w64 ((w64 (a0 - (gl 0 (s54.getD (gl 0 ((s22.set s21.toNat (gl 0 s22 (w64 (s21 + x26)))).set (w64 (s21 + x26)).toNat (gl 0 s22 s21)) s53) []) s21))) * (gl 0 (s64.getD (gl 0 ((s22.set s21.toNat (gl 0 s22 (w64 (s21 + x26)))).set (w64 (s21 + x26)).toNat (gl 0 s22 s21)) s21) []) s63))) = v, fun ρ w v => vI (w64 ((gl 0 (s64.getD (gl 0 ((s22.set s21.toNat (gl 0 s22 (w64 (s21 + x26)))).set (w64 (s21 + x26)).toNat (gl 0 s22 s21)) s53) []) s63) + (w64 ((w64 (a0 - (gl 0 (s54.getD (gl 0 ((s22.set s21.toNat (gl 0 s22 (w64 (s21 + x26)))).set (w64 (s21 + x26)).toNat (gl 0 s22 s21)) s53) []) s21))) * (gl 0 (s64.getD (gl 0 ((s22.set s21.toNat (gl 0 s22 (w64 (s21 + x26)))).set (w64 (s21 + x26)).toNat (gl 0 s22 s21)) s21) []) s63))))) = v, fun ρ w v => vI a0 = v, fun ρ w v => vI ((w64 ((gl 0 (s64.getD (gl 0 ((s22.set s21.toNat (gl 0 s22 (w64 (s21 + x26)))).set (w64 (s21 + x26)).toNat (gl 0 s22 s21)) s53) []) s63) + (w64 ((w64 (a0 - (gl 0 (s54.getD (gl 0 ((s22.set s21.toNat (gl 0 s22 (w64 (s21 + x26)))).set (w64 (s21 + x26)).toNat (gl 0 s22 s21)) s53) []) s21))) * (gl 0 (s64.getD (gl 0 ((s22.set s21.toNat (gl 0 s22 (w64 (s21 + x26)))).set (w64 (s21 + x26)).toNat (gl 0 s22 s21)) s21) []) s63))))).tmod a0) = v] ?_ hw ⟨o2, o9⟩ hf ?_ ?_
        · intro ρ w ρ' w' hE hG
          obtain ⟨o2, o9⟩ := hG
          exact ⟨o2.ext hE, o9.ext hE⟩
        · exact LastsL.cons (fun _ _ _ _ _ _ h => h) <| LastsL.cons (fun _ _ _ _ _ _ h => h) <| LastsL.cons (fun _ _ _ _ _ hE h => by obtain ⟨ad66, h, hn66, hl66⟩ := h; exact ⟨_, h, hn66, hl66.ext hE⟩) <| LastsL.cons (fun _ _ _ _ _ hE h => by obtain ⟨h, hn66⟩ := h; exact ⟨h, hn66⟩) <| LastsL.cons (fun _ _ _ _ _ _ h => h) <| LastsL.cons (fun _ _ _ _ _ _ h => h) <| LastsL.cons (fun _ _ _ _ _ _ h => h) <| LastsL.cons (fun _ _ _ _ _ hE h => by obtain ⟨ad67, h, hn67, hl67⟩ := h; exact ⟨_, h, hn67, hl67.ext hE⟩) <| LastsL.cons (fun _ _ _ _ _ hE h => by obtain ⟨h, hn67⟩ := h; exact ⟨h, hn67⟩) <| LastsL.cons (fun _ _ _ _ _ _ h => h) <| LastsL.cons (fun _ _ _ _ _ hE h => by obtain ⟨ad69, h, hl69⟩ := h; exact ⟨_, h, hl69.ext hE⟩) <| LastsL.cons (fun _ _ _ _ _ _ h => h) <| LastsL.cons (fun _ _ _ _ _ _ h => h) <| LastsL.cons (fun _ _ _ _ _ _ h => h) <| LastsL.cons (fun _ _ _ _ _ _ h => h) <| LastsL.cons (fun _ _ _ _ _ _ h => h) <| LastsL.cons (fun _ _ _ _ _ _ h => h) <| LastsL.cons (fun _ _ _ _ _ hE h => by obtain ⟨ad70, h, hn70, hl70⟩ := h; exact ⟨_, h, hn70, hl70.ext hE⟩) <| LastsL.cons (fun _ _ _ _ _ hE h => by obtain ⟨h, hn70⟩ := h; exact ⟨h, hn70⟩) <| LastsL.cons (fun _ _ _ _ _ _ h => h) <| LastsL.cons (fun _ _ _ _ _ hE h => by obtain ⟨ad72, h, hl72⟩ := h; exact ⟨_, h, hl72.ext hE⟩) <| LastsL.cons (fun _ _ _ _ _ _ h => h) <| LastsL.cons (fun _ _ _ _ _ _ h => h) <| LastsL.cons (fun _ _ _ _ _ _ h => h) <| LastsL.cons (fun _ _ _ _ _ _ h => h) <| LastsL.cons (fun _ _ _ _ _ _ h => h) <| LastsL.nil
        · refine StepsB.cons ?_ <| StepsB.cons ?_ <| StepsB.cons ?_ <| StepsB.cons ?_ <| StepsB.cons ?_ <| StepsB.cons ?_ <| StepsB.cons ?_ <| StepsB.cons ?_ <| StepsB.cons ?_ <| StepsB.cons ?_ <| StepsB.cons ?_ <| StepsB.cons ?_ <| StepsB.cons ?_ <| StepsB.cons ?_ <| StepsB.cons ?_ <| StepsB.cons ?_ <| StepsB.cons ?_ <| StepsB.cons ?_ <| StepsB.cons ?_ <| StepsB.cons ?_ <| StepsB.cons ?_ <| StepsB.cons ?_ <| StepsB.cons ?_ <| StepsB.cons ?_ <| StepsB.cons ?_ <| StepsB.cons ?_ <| StepsB.nil
          · intro ρ w a hw hG hf hd K hK
            obtain ⟨o2, o9⟩ := hG
            exact dv_ hK hw (wn rfl) (r_move hf rfl) rfl
          · intro ρ w a hw hG hf hd K hK
            obtain ⟨o2, o9⟩ := hG
            exact dv_ hK hw (wn rfl) (r_move hf rfl) rfl
          · intro ρ w a hw hG hf hd K hK
            obtain ⟨o2, o9⟩ := hG
            obtain ⟨_, hf, rfl⟩ := got (hd 0 (by kernel_rfl)) hf
            obtain ⟨_, hf, rfl⟩ := got (hd 1 (by kernel_rfl)) hf
            obtain ⟨ad66, hl66⟩ := Ow.ce (d := fRef f6) o2.out 0 hc57.1 hc57.2
            have hn66 := o2.lt_gl hc57.1 hc57.2
            exact dv_ hK hw (wn rfl) (r_idx Try.underlying24 sz36 hf rfl hl66.at_ rfl hc57.1 hc57.2) (ex_ <| an_ rfl <| an_ hn66 <| hl66)
          · intro ρ w a hw hG hf hd K hK
            obtain ⟨o2, o9⟩ := hG
            obtain ⟨_, hf, ⟨ad66, rfl, hn66, hl66⟩⟩ := got (hd 2 (by kernel_rfl)) hf
            exact dv_ hK hw (wn rfl) (r_load_cell ty36 hf rfl hl66.co.cl) (an_ rfl <| hn66)
          · intro ρ w a hw hG hf hd K hK
            obtain ⟨o2, o9⟩ := hG
            exact dv_ hK hw (wn rfl) (r_move hf rfl) rfl
          · intro ρ w a hw hG hf hd K hK
            obtain ⟨o2, o9⟩ := hG
            exact dv_ hK hw (wn rfl) (r_move hf rfl) rfl
          · intro ρ w a hw hG hf hd K hK
            obtain ⟨o2, o9⟩ := hG
            exact dv_ hK hw (wn rfl) (r_move hf rfl) rfl
          · intro ρ w a hw hG hf hd K hK
            obtain ⟨o2, o9⟩ := hG
            obtain ⟨_, hf, rfl⟩ := got (hd 5 (by kernel_rfl)) hf
            obtain ⟨_, hf, rfl⟩ := got (hd 6 (by kernel_rfl)) hf
            obtain ⟨ad67, hl67⟩ := Ow.ce (d := fRef f6) o2.out 0 hc57.1 hc57.2
            have hn67 := o2.lt_gl hc57.1 hc57.2
            exact dv_ hK hw (wn rfl) (r_idx Try.underlying24 sz36 hf rfl hl67.at_ rfl hc57.1 hc57.2) (ex_ <| an_ rfl <| an_ hn67 <| hl67)
          · intro ρ w a hw hG hf hd K hK
            obtain ⟨o2, o9⟩ := hG
            obtain ⟨_, hf, ⟨ad67, rfl, hn67, hl67⟩⟩ := got (hd 7 (by kernel_rfl)) hf
            exact dv_ hK hw (wn rfl) (r_load_cell ty36 hf rfl hl67.co.cl) (an_ rfl <| hn67)
          · intro ρ w a hw hG hf hd K hK
            obtain ⟨o2, o9⟩ := hG
            exact dv_ hK hw (wn rfl) (r_move hf rfl) rfl
          · intro ρ w a hw hG hf hd K hK
            obtain ⟨o2, o9⟩ := hG
            obtain ⟨_, hf, ⟨rfl, hn67⟩⟩ := got (hd 8 (by kernel_rfl)) hf
            obtain ⟨_, hf, rfl⟩ := got (hd 9 (by kernel_rfl)) hf
            obtain ⟨ad69, hl69⟩ := Ow.ce (d := fI64) (o2.rowAt hn67) 0 hc68.1 hc68.2
            exact dv_ hK hw (wn rfl) (r_idx Try.underlying36 sz2 hf rfl hl69.at_ rfl hc68.1 hc68.2) (ex_ <| an_ rfl <| hl69)
          · intro ρ w a hw hG hf hd K hK
            obtain ⟨o2, o9⟩ := hG
            obtain ⟨_, hf, ⟨ad69, rfl, hl69⟩⟩ := got (hd 10 (by kernel_rfl)) hf
            exact dv_ hK hw (wn rfl) (r_load_cell ty2 hf rfl hl69.co.cl) rfl
          · intro ρ w a hw hG hf hd K hK
            obtain ⟨o2, o9⟩ := hG
            exact dv_ hK hw (wn rfl) (r_move hf rfl) rfl
          · intro ρ w a hw hG hf hd K hK
            obtain ⟨o2, o9⟩ := hG
            exact dv_ hK hw (wn rfl) (r_move hf rfl) rfl
          · intro ρ w a hw hG hf hd K hK
            obtain ⟨o2, o9⟩ := hG
            obtain ⟨_, hf, rfl⟩ := got (hd 12 (by kernel_rfl)) hf
            obtain ⟨_, hf, rfl⟩ := got (hd 13 (by kernel_rfl)) hf
            exact dv_ hK hw (wn rfl) (r_sub hf rfl rfl) rfl
          · intro ρ w a hw hG hf hd K hK
            obtain ⟨o2, o9⟩ := hG
            exact dv_ hK hw (wn rfl) (r_move hf rfl) rfl
          · intro ρ w a hw hG hf hd K hK
            obtain ⟨o2, o9⟩ := hG
            exact dv_ hK hw (wn rfl) (r_load_cell ty3 hf rfl o9.cl) rfl
          · intro ρ w a hw hG hf hd K hK
            obtain ⟨o2, o9⟩ := hG
            obtain ⟨_, hf, rfl⟩ := got (hd 15 (by kernel_rfl)) hf
            obtain ⟨_, hf, rfl⟩ := got (hd 16 (by kernel_rfl)) hf
            obtain ⟨ad70, hl70⟩ := Ow.ce (d := fRef f6) o2.out 0 hc35.1 hc35.2
            have hn70 := o2.lt_gl hc35.1 hc35.2
            exact dv_ hK hw (wn rfl) (r_idx Try.underlying24 sz36 hf rfl hl70.at_ rfl hc35.1 hc35.2) (ex_ <| an_ rfl <| an_ hn70 <| hl70)
          · intro ρ w a hw hG hf hd K hK
            obtain ⟨o2, o9⟩ := hG
            obtain ⟨_, hf, ⟨ad70, rfl, hn70, hl70⟩⟩ := got (hd 17 (by kernel_rfl)) hf
            exact dv_ hK hw (wn rfl) (r_load_cell ty36 hf rfl hl70.co.cl) (an_ rfl <| hn70)
          · intro ρ w a hw hG hf hd K hK
            obtain ⟨o2, o9⟩ := hG
            exact dv_ hK hw (wn rfl) (r_move hf rfl) rfl
          · intro ρ w a hw hG hf hd K hK
            obtain ⟨o2, o9⟩ := hG
            obtain ⟨_, hf, ⟨rfl, hn70⟩⟩ := got (hd 18 (by kernel_rfl)) hf
            obtain ⟨_, hf, rfl⟩ := got (hd 19 (by kernel_rfl)) hf
            obtain ⟨ad72, hl72⟩ := Ow.ce (d := fI64) (o2.rowAt hn70) 0 hc71.1 hc71.2
            exact dv_ hK hw (wn rfl) (r_idx Try.underlying36 sz2 hf rfl hl72.at_ rfl hc71.1 hc71.2) (ex_ <| an_ rfl <| hl72)
          · intro ρ w a hw hG hf hd K hK
            obtain ⟨o2, o9⟩ := hG
            obtain ⟨_, hf, ⟨ad72, rfl, hl72⟩⟩ := got (hd 20 (by kernel_rfl)) hf
            exact dv_ hK hw (wn rfl) (r_load_cell ty2 hf rfl hl72.co.cl) rfl
          · intro ρ w a hw hG hf hd K hK
            obtain ⟨o2, o9⟩ := hG
            obtain ⟨_, hf, rfl⟩ := got (hd 14 (by kernel_rfl)) hf
            obtain ⟨_, hf, rfl⟩ := got (hd 21 (by kernel_rfl)) hf
            exact dv_ hK hw (wn rfl) (r_mul hf rfl rfl) rfl
          · intro ρ w a hw hG hf hd K hK
            obtain ⟨o2, o9⟩ := hG
            obtain ⟨_, hf, rfl⟩ := got (hd 11 (by kernel_rfl)) hf
            obtain ⟨_, hf, rfl⟩ := got (hd 22 (by kernel_rfl)) hf
            exact dv_ hK hw (wn rfl) (r_add hf rfl rfl) rfl
          · intro ρ w a hw hG hf hd K hK
            obtain ⟨o2, o9⟩ := hG
            exact dv_ hK hw (wn rfl) (r_move hf rfl) rfl
          · intro ρ w a hw hG hf hd K hK
            obtain ⟨o2, o9⟩ := hG
            obtain ⟨_, hf, rfl⟩ := got (hd 23 (by kernel_rfl)) hf
            obtain ⟨_, hf, rfl⟩ := got (hd 24 (by kernel_rfl)) hf
            exact dv_ hK hw (wn rfl) (r_rem hf rfl rfl hc73) rfl
        intro ρ w a hw hG hf hd
        obtain ⟨o2, o9⟩ := hG
        obtain ⟨_, hf, ⟨rfl, hn66⟩⟩ := got (hd 3 (by decide)) hf
        obtain ⟨_, hf, rfl⟩ := got (hd 4 (by decide)) hf
        obtain ⟨_, hf, rfl⟩ := got (hd 25 (by decide)) hf
        obtain ⟨ad74, hl74⟩ := Ow.ce (d := fI64) (o2.rowAt hn66) 0 hc68.1 hc68.2
        refine s_ hf (r_idx Try.underlying36 sz2 hf rfl hl74.at_ rfl hc68.1 hc68.2) fun a hf => ?_
        refine sk_ hf (r_gcell (p := s63) (b := (w64 ((gl 0 (s64.getD (gl 0 ((s22.set s21.toNat (gl 0 s22 (w64 (s21 + x26)))).set (w64 (s21 + x26)).toNat (gl 0 s22 s21)) s53) []) s63) + (w64 ((w64 (a0 - (gl 0 (s54.getD (gl 0 ((s22.set s21.toNat (gl 0 s22 (w64 (s21 + x26)))).set (w64 (s21 + x26)).toNat (gl 0 s22 s21)) s53) []) s21))) * (gl 0 (s64.getD (gl 0 ((s22.set s21.toNat (gl 0 s22 (w64 (s21 + x26)))).set (w64 (s21 + x26)).toNat (gl 0 s22 s21)) s21) []) s63))))).tmod a0) 0 hw o2 hc68.1 hc68.2 (Lens.id _) hl74.at_ ty2 (by first | rfl | exact Nat.add_assoc _ _ _ | (simp only [Nat.add_assoc]; rfl)) hf rfl rfl rfl) fun a w hf hΦ => ?_
        obtain ⟨hw, hA, o2⟩ := hΦ
        replace o9 := o9.adv hA (by unfold lab; omega)
        replace hn66 : (gl 0 ((s22.set s21.toNat (gl 0 s22 (w64 (s21 + x26)))).set (w64 (s21 + x26)).toNat (gl 0 s22 s21)) s53) < (s64.set (gl 0 ((s22.set s21.toNat (gl 0 s22 (w64 (s21 + x26)))).set (w64 (s21 + x26)).toNat (gl 0 s22 s21)) s53) ((s64.getD (gl 0 ((s22.set s21.toNat (gl 0 s22 (w64 (s21 + x26)))).set (w64 (s21 + x26)).toNat (gl 0 s22 s21)) s53) []).set s63.toNat ((w64 ((gl 0 (s64.getD (gl 0 ((s22.set s21.toNat (gl 0 s22 (w64 (s21 + x26)))).set (w64 (s21 + x26)).toNat (gl 0 s22 s21)) s53) []) s63) + (w64 ((w64 (a0 - (gl 0 (s54.getD (gl 0 ((s22.set s21.toNat (gl 0 s22 (w64 (s21 + x26)))).set (w64 (s21 + x26)).toNat (gl 0 s22 s21)) s53) []) s21))) * (gl 0 (s64.getD (gl 0 ((s22.set s21.toNat (gl 0 s22 (w64 (s21 + x26)))).set (w64 (s21 + x26)).toNat (gl 0 s22 s21)) s21) []) s63))))).tmod a0))).length := Nat.lt_of_lt_of_le hn66 (by simp only [List.length_append, List.length_set] <;> omega)
        refine c_nil <| n_block <| n_then <| c_region ?_
        refine s_ hf (r_add hf rfl rfl) fun a hf => ?_
        refine s_ hf (r_move hf rfl) fun a hf => ?_
        refine c_nil ?_
        obtain rfl := Option.some.inj hF
        exact Rnd.goes ⟨_, hw, hf.sub ⟨rfl, rfl, rfl, rfl, rfl, rfl, rfl, rfl, rfl, rfl, rfl, rfl, trivial⟩, o2, o9⟩
      rintro ⟨s63, s64⟩ a w hs ⟨ρ, hw, hf, o2, o9⟩
      subst hs
      have hF := hG62
      dsimp only at hF
      refine x_block <| n_block <| n_then <| c_region ?_
      refine s_ hf (r_add hf rfl rfl) fun a hf => ?_
      refine s_ hf (r_move hf rfl) fun a hf => ?_
      refine c_nil ?_
      obtain rfl := Option.some.inj hF
      exact Rnd.goes ⟨_, hw, hf.sub ⟨rfl, rfl, rfl, rfl, rfl, rfl, rfl, rfl, trivial⟩, o2, o9⟩
    rintro ⟨s53, s54⟩ a w hs ⟨ρ, hw, hf, o2⟩
    subst hs
    have hF := hG52
    dsimp only at hF
    refine x_block <| n_block <| n_then <| c_region ?_
    refine s_ hf (r_add hf rfl rfl) fun a hf => ?_
    refine s_ hf (r_move hf rfl) fun a hf => ?_
    refine c_nil ?_
    obtain rfl := Option.some.inj hF
    exact Rnd.goes ⟨_, hw, hf.sub ⟨rfl, rfl, rfl, rfl, rfl, trivial⟩, o2⟩
  rintro ⟨s21, s22, s23⟩ a w hs ⟨ρ, hw, hf, o2⟩
  subst hs
  have hF := hG20
  dsimp only at hF
  refine x_block <| n_then <| c_seq <| c_region ?_
  refine sx_ hf (r_lit_none (d := (Kd.slice 2 (kf fI64))) 46 Try.underlying24 el36 hw) fun a v46 w hf hΦ => ?_
  obtain ⟨ρ, hw, hE, o46⟩ := hΦ
  replace o2 := o2.ext hE
  replace o46 : Gd fI64 2 36 ρ w w0.heap.size 46 v46 (fun _ => (⟨.bool false, rfl⟩ : V1)) ([] : List Nat) ([] : List (List Int)) := Gd.empty o46 rfl (by decide) _
  refine s_ hf (r_assign hf rfl) fun a hf => ?_
  refine c_nt <| c_seq <| c_seq <| c_region ?_
  refine s_ hf (r_move hf rfl) fun a hf => ?_
  refine s_ hf (r_len Try.underlying24 o2.out.ro hf rfl) fun a hf => ?_
  refine s_ hf (r_move hf rfl) fun a hf => ?_
  refine c_nt ?_
  obtain ⟨ol75, ho75, hG75⟩ := of_bind hF
  clear hF
  refine c_block (c_loop (id := 10) (fun s => impl_inverted_l75 a1 s22 s23 s.1 s.2.1 s.2.2) (fun (s : Int × (List Nat) × (List (List Int))) a w => match s with | (s76, s77, s78) => ∃ ρ vv79 f80, Wd w0 ρ w ∧ Fr 172 a [(5, vI (a1.length : Int)), (17, vv79), (157, vv5), (158, vI (s22.length : Int)), (159, vI s76)] ∧ Gd fI64 2 36 ρ w w0.heap.size 2 vv5 f6 s22 s23 ∧ Gd fI64 2 36 ρ w w0.heap.size 46 vv79 f80 s77 s78) (fun (s : Int × (List Nat) × (List (List Int))) a w => match s with | (s76, s77, s78) => ∃ ρ vv79 f80, Wd w0 ρ w ∧ Fr 172 a [(17, vv79)] ∧ Gd fI64 2 36 ρ w w0.heap.size 46 vv79 f80 s77 s78) ho75 ⟨_, _, _, hw, hf.sub ⟨rfl, rfl, rfl, rfl, rfl, trivial⟩, o2, o46⟩ ?_ ?_)
  · rintro ⟨s76, s77, s78⟩ lr a w ⟨ρ, vv79, f80, hw, hf, o2, o46⟩ hF
    replace hF : impl_inverted_l75 a1 s22 s23 s76 s77 s78 = some lr := hF
    unfold impl_inverted_l75 at hF
    refine c_seq <| c_region ?_
    refine s_ hf (r_lss hf rfl rfl) fun a hf => ?_
    refine c_nt <| c_seq ?_
    rcases of_ite hF with ⟨hb81, hF⟩ | ⟨hb81, hF⟩
    rotate_left
    · refine c_iff hf rfl hb81 <| c_exit <| x_then ?_
      obtain rfl := Option.some.inj hF
      exact Rnd.stops ⟨_, _, _, hw, hf.sub ⟨rfl, trivial⟩, o46⟩
    refine c_ift hf rfl hb81 <| c_skip <| n_then <| c_seq <| c_block <| c_seq <| c_region ?_
    obtain ⟨hc82, hF⟩ := of_guard hF
    obtain ⟨ad83, hl83⟩ := Ow.ce (d := fRef f6) o2.out 0 hc82.1 hc82.2
    have hn83 := o2.lt_gl hc82.1 hc82.2
    refine s_ hf (r_idx Try.underlying24 sz36 hf rfl hl83.at_ rfl hc82.1 hc82.2) fun a hf => ?_
    refine s_ hf (r_load_cell ty36 hf rfl hl83.co.cl) fun a hf => ?_
    refine s_ hf (r_assign hf rfl) fun a hf => ?_
    refine c_nt <| c_region ?_
    refine s_ hf (r_move hf rfl) fun a hf => ?_
    refine s_ hf (r_move hf rfl) fun a hf => ?_
    refine s_ hf (r_move hf rfl) fun a hf => ?_
    obtain ⟨hc84, hF⟩ := of_guard hF
    have o49 : Ro (kf fI64) w (cutV ((f6 (gl 0 s22 s76)).1) (a1.length : Int).toNat ((s23.getD (gl 0 s22 s76) []).length : Int).toNat 1) (((s23.getD (gl 0 s22 s76) []).take ((s23.getD (gl 0 s22 s76) []).length : Int).toNat).drop (a1.length : Int).toNat) := ro_cutV ((o2.rowAt hn83).ro) hc84.1 hc84.2 (Int.le_refl _)
    refine s_ hf (r_cut_v (lo := (a1.length : Int)) (hi := ((s23.getD (gl 0 s22 s76) []).length : Int)) Try.underlying36 sz2 rfl ((o2.rowAt hn83).ro) hf rfl (.inr ⟨_, rfl, rfl⟩) (.inl ⟨rfl, rfl⟩) hc84.1 hc84.2 (Int.le_refl _)) fun a hf => ?_
    obtain ⟨x85, hx86, hF⟩ := of_bind hF
    refine st_fn 50 hw hf rfl rfl (by decide) (r_fn en111 hf rfl) (slices_Clone_111_ok o49 hx86) fun a v w ρ hf hw hE hN hΦ => ?_
    obtain ⟨u87, rfl, hr88⟩ := hΦ
    replace o2 := o2.ext hE
    replace o46 := o46.ext hE
    replace hl83 := hl83.ext hE
    replace o49 := o49.ext hE
    have o50 := hN hr88
    refine sx_ hf (r_glit 51 Try.underlying24 el36 hw hf rfl o50) fun a v51 w hf hΦ => ?_
    obtain ⟨ρ, hw, hE, o51⟩ := hΦ
    replace o2 := o2.ext hE
    replace o46 := o46.ext hE
    replace hl83 := hl83.ext hE
    replace o49 := o49.ext hE
    replace o50 := o50.ext hE
    obtain ⟨hc89, hF⟩ := of_guard hF
    refine sx_ hf (r_gapp' Try.underlying24 el36 hw (by decide) (by decide) (fun _ => by unfold lab; omega) o46 o51 o50 hc89 hf rfl rfl) fun a va90 w hf hΦ => ?_
    obtain ⟨f90, ρ, hw, hT, o46, hff90, hnu90⟩ := hΦ
    replace o2 := o2.tr (hT 2 (by decide) (by decide)) (fun _ => hT _ (by unfold lab; omega) (by unfold lab; omega))
    rw [hnu90] at hf
    have hn91 : s78.length < (s78 ++ [x85]).length := by simp
    refine s_ hf (r_assign hf rfl) fun a hf => ?_
    refine c_nil <| n_block <| n_then <| c_region ?_
    refine s_ hf (r_add hf rfl rfl) fun a hf => ?_
    refine s_ hf (r_move hf rfl) fun a hf => ?_
    refine c_nil ?_
    obtain rfl := Option.some.inj hF
    exact Rnd.goes ⟨_, _, _, hw, hf.sub ⟨rfl, rfl, rfl, rfl, rfl, trivial⟩, o2, o46⟩
  rintro ⟨s76, s77, s78⟩ a w hs ⟨ρ, vv79, f80, hw, hf, o46⟩
  subst hs
  have hF := hG75
  dsimp only at hF
  refine x_block <| n_then <| c_seq <| c_region ?_
  refine s_ hf (r_move hf rfl) fun a hf => ?_
  refine s_ hf (r_assign hf rfl) fun a hf => ?_
  refine c_nt <| c_retc ?_
  obtain rfl := Option.some.inj hF
  refine c_ret hf (res_tmp Try.results55 hf rfl) ?_
  exact ⟨_, rfl, hw.below, ⟨_, rfl, o46.fresh⟩⟩
/-! f105 -/
noncomputable def spec_l01Own (a0 : List Int) : Option (List Int) :=
  if (([] : List Int).length + a0.length) * 8 ≤ 140737488355328 then (some ((([] : List Int) ++ a0))) else none
theorem spec_l01Own_ok {w0 : World} {a0 : List Int} {va0 : Value} (h0 : Ro (kf fI64) w0 va0 a0) {r : List Int} (hF : spec_l01Own a0 = some r) :
    Calls Try.prog 105 [va0].toArray w0 fun e w => ∃ v, e = .returned v ∧ Below w0.heap.size w0 w ∧ ∃ u0, u0 = v ∧ Fresh (kf fI64) 2 w0 w u0 r := by
  refine calls_of (k := 6) Try.func105 rfl rfl (Nat.le_of_ble_eq_true rfl) fun a hf => ?_
  replace hf : Fr 6 a [(0, va0)] := hf
  refine c_start fun w ρ hw => ?_
  unfold spec_l01Own at hF
  refine c_seq <| c_region ?_
  have o1 : Ow (kf fI64) 2 ρ w w0.heap.size 1 (.slice none 0 0) [] := Ow.nil _ _ _ _ _ _
  refine s_ hf (r_assign hf rfl) fun a hf => ?_
  refine c_nt <| c_seq <| c_region ?_
  refine sx_ hf (r_lit (d := fI64) (xs := ([] : List Int)) (vs := []) 2 Try.underlying36 el2 (Nat.le_of_ble_eq_true rfl) (Nat.le_of_ble_eq_true rfl) hw hf rfl rfl rfl) fun a v2 w hf hΦ => ?_
  obtain ⟨ρ, hw, hE, o2⟩ := hΦ
  replace o1 := o1.ext hE
  refine s_ hf (r_move hf rfl) fun a hf => ?_
  obtain ⟨hc1, hF⟩ := of_guard hF
  refine sx_ hf (r_append Try.underlying36 el2 hw (by decide) o2 (h0.now hw) hc1 hf rfl rfl) fun a va2 w hf hΦ => ?_
  obtain ⟨ρ, hw, hA, o2⟩ := hΦ
  replace o1 := o1.adv hA (by decide)
  refine s_ hf (r_assign hf rfl) fun a hf => ?_
  refine c_nt <| c_retc ?_
  obtain rfl := Option.some.inj hF
  refine c_ret hf (res_tmp Try.results105 hf rfl) ?_
  exact ⟨_, rfl, hw.below, ⟨_, rfl, o2.out⟩⟩
/-! f57 -/
noncomputable def spec_l04Inverse_l14 (a1 : List (List Int)) (s2 : Int) (s15 : Int) (s16 : List Int) : Option (LR (Int × (List Int)) (List (List Int) × Bool)) :=
  if (decide (s15 < (a1.length : Int))) = true then (if (decide (s2 = s15)) = true then (if (s16.length + ([1]).length) * 8 ≤ 140737488355328 then (some (.next (w64 (s15 + 1), (s16 ++ [1])))) else none) else (if (s16.length + ([0]).length) * 8 ≤ 140737488355328 then (some (.next (w64 (s15 + 1), (s16 ++ [0])))) else none)) else (some (.stop (s15, s16)))
noncomputable def spec_l04Inverse_l1 (a1 : List (List Int)) (s2 : Int) (s3 : List Nat) (s4 : List (List Int)) : Option (LR (Int × (List Nat) × (List (List Int))) (List (List Int) × Bool)) :=
  if (decide (s2 < (a1.length : Int))) = true then (if 0 ≤ s2 ∧ s2 < (a1.length : Int) then ((spec_l01Own (gl [] a1 s2)).bind fun x10 => (iter (fun s => spec_l04Inverse_l14 a1 s2 s.1 s.2) (0, x10)).bind fun o => match o with | .stop (s15, s16) => (if (s3.length + 1) * 24 ≤ 140737488355328 then (some (.next (w64 (s2 + 1), (s3 ++ [s4.length]), (s4 ++ [s16])))) else none) | .ret r => some (.ret r) | .next _ => none) else none) else (some (.stop (s2, s3, s4)))
noncomputable def spec_l04Inverse_l33 (a1 : List (List Int)) (s28 : Int) (s29 : List Nat) (s30 : List (List Int)) (s34 : Int) : Option (LR Int (List (List Int) × Bool)) :=
  (if (decide (s34 < (a1.length : Int))) = true then (if 0 ≤ s34 ∧ s34 < (s29.length : Int) then (if 0 ≤ s28 ∧ s28 < ((s30.getD (gl 0 s29 s34) []).length : Int) then (some (decide ((gl 0 (s30.getD (gl 0 s29 s34) []) s28) = 0))) else none) else none) else (some false)).bind fun (s36 : Bool) => if s36 = true then (some (.next (w64 (s34 + 1)))) else (some (.stop s34))
noncomputable def spec_l04Inverse_l53 (a0 : Int) (a1 : List (List Int)) (s29 : List Nat) (s30 : List (List Int)) (s34 : Int) (x51 : Int) (s54 : Int) (s55 : List Int) : Option (LR (Int × (List Int)) (List (List Int) × Bool)) :=
  if (decide (s54 < (w64 (2 * (a1.length : Int))))) = true then (if 0 ≤ s54 ∧ s54 < ((s30.getD (gl 0 s29 s34) []).length : Int) then (if a0 ≠ 0 then (if (s55.length + ([(w64 ((gl 0 (s30.getD (gl 0 s29 s34) []) s54) * x51)).tmod a0]).length) * 8 ≤ 140737488355328 then (some (.next (w64 (s54 + 1), (s55 ++ [(w64 ((gl 0 (s30.getD (gl 0 s29 s34) []) s54) * x51)).tmod a0])))) else none) else none) else none) else (some (.stop (s54, s55)))
noncomputable def spec_l04Inverse_l81 (a0 : Int) (a1 : List (List Int)) (s28 : Int) (s30 : List (List Int)) (s68 : Int) (s69 : List Nat) (s70 : List (List Int)) (s82 : Int) (s83 : List Int) : Option (LR (Int × (List Int)) (List (List Int) × Bool)) :=
  if (decide (s82 < (w64 (2 * (a1.length : Int))))) = true then (if 0 ≤ s82 ∧ s82 < ((s70.getD (gl 0 s69 s68) []).length : Int) then (if 0 ≤ s82 ∧ s82 < ((s70.getD s30.length []).length : Int) then ((spec_l01Mod a0 (w64 ((gl 0 (s70.getD (gl 0 s69 s68) []) s82) - (w64 ((gl 0 (s70.getD (gl 0 s69 s68) []) s28) * (gl 0 (s70.getD s30.length []) s82)))))).bind fun x91 => if (s83.length + ([x91]).length) * 8 ≤ 140737488355328 then (some (.next (w64 (s82 + 1), (s83 ++ [x91])))) else none) else none) else none) else (some (.stop (s82, s83)))
noncomputable def spec_l04Inverse_l67 (a0 : Int) (a1 : List (List Int)) (s28 : Int) (s30 : List (List Int)) (s68 : Int) (s69 : List Nat) (s70 : List (List Int)) : Option (LR (Int × (List Nat) × (List (List Int))) (List (List Int) × Bool)) :=
  if (decide (s68 < (a1.length : Int))) = true then (if 0 ≤ s68 ∧ s68 < (s69.length : Int) then (if 0 ≤ s28 ∧ s28 < ((s70.getD (gl 0 s69 s68) []).length : Int) then ((if (decide (s68 = s28)) = true then (some true) else (some (decide ((gl 0 (s70.getD (gl 0 s69 s68) []) s28) = 0)))).bind fun (s78 : Bool) => if s78 = true then (some (.next (w64 (s68 + 1), s69, s70))) else ((iter (fun s => spec_l04Inverse_l81 a0 a1 s28 s30 s68 s69 s70 s.1 s.2) (0, ([] : List Int))).bind fun o => match o with | .stop (s82, s83) => (some (.next (w64 (s68 + 1), (s69.set s68.toNat s70.length), (s70 ++ [s83])))) | .ret r => some (.ret r) | .next _ => none)) else none) else none) else (some (.stop (s68, s69, s70)))
noncomputable def spec_l04Inverse_l27 (a0 : Int) (a1 : List (List Int)) (s28 : Int) (s29 : List Nat) (s30 : List (List Int)) : Option (LR (Int × (List Nat) × (List (List Int))) (List (List Int) × Bool)) :=
  if (decide (s28 < (a1.length : Int))) = true then ((iter (fun s => spec_l04Inverse_l33 a1 s28 s29 s30 s) s28).bind fun o => match o with | .stop s34 => (if (decide (s34 = (a1.length : Int))) = true then (some (.ret (([] : List (List Int)), false))) else (if 0 ≤ s34 ∧ s34 < (s29.length : Int) then (if 0 ≤ s28 ∧ s28 < (s29.length : Int) then (if 0 ≤ s28 ∧ s28 < ((s30.getD (gl 0 s29 s34) []).length : Int) then ((spec_l01Inverse a0 (gl 0 (s30.getD (gl 0 s29 s34) []) s28)).bind fun x51 => (iter (fun s => spec_l04Inverse_l53 a0 a1 s29 s30 s34 x51 s.1 s.2) (0, ([] : List Int))).bind fun o => match o with | .stop (s54, s55) => (if 0 ≤ s28 ∧ s28 < ((s29.set s34.toNat (gl 0 s29 s28)).length : Int) then ((iter (fun s => spec_l04Inverse_l67 a0 a1 s28 s30 s.1 s.2.1 s.2.2) (0, ((s29.set s34.toNat (gl 0 s29 s28)).set s28.toNat s30.length), (s30 ++ [s55]))).bind fun o => match o with | .stop (s68, s69, s70) => (some (.next (w64 (s28 + 1), s69, s70))) | .ret r => some (.ret r) | .next _ => none) else none) | .ret r => some (.ret r) | .next _ => none) else none) else none) else none)) | .ret r => some (.ret r) | .next _ => none) else (some (.stop (s28, s29, s30)))
noncomputable def spec_l04Inverse_l98 (a1 : List (List Int)) (s29 : List Nat) (s30 : List (List Int)) (s99 : Int) (s100 : List Nat) (s101 : List (List Int)) : Option (LR (Int × (List Nat) × (List (List Int))) (List (List Int) × Bool)) :=
  if (decide (s99 < (a1.length : Int))) = true then (if 0 ≤ s99 ∧ s99 < (s29.length : Int) then (if 0 ≤ (a1.length : Int) ∧ (a1.length : Int) ≤ ((s30.getD (gl 0 s29 s99) []).length : Int) then ((spec_l01Own (((s30.getD (gl 0 s29 s99) []).take ((s30.getD (gl 0 s29 s99) []).length : Int).toNat).drop (a1.length : Int).toNat)).bind fun x108 => if (s100.length + 1) * 24 ≤ 140737488355328 then (some (.next (w64 (s99 + 1), (s100 ++ [s101.length]), (s101 ++ [x108])))) else none) else none) else none) else (some (.stop (s99, s100, s101)))
noncomputable def spec_l04Inverse (a0 : Int) (a1 : List (List Int)) : Option (List (List Int) × Bool) :=
  (iter (fun s => spec_l04Inverse_l1 a1 s.1 s.2.1 s.2.2) (0, ([] : List Nat), ([] : List (List Int)))).bind fun o => match o with | .stop (s2, s3, s4) => ((iter (fun s => spec_l04Inverse_l27 a0 a1 s.1 s.2.1 s.2.2) (0, s3, s4)).bind fun o => match o with | .stop (s28, s29, s30) => ((iter (fun s => spec_l04Inverse_l98 a1 s29 s30 s.1 s.2.1 s.2.2) (0, ([] : List Nat), ([] : List (List Int)))).bind fun o => match o with | .stop (s99, s100, s101) => (some (((gi s100 s101), true))) | .ret r => some r | .next _ => none) | .ret r => some r | .next _ => none) | .ret r => some r | .next _ => none
theorem spec_l04Inverse_ok {w0 : World} {a0 : Int} {a1 : List (List Int)} {va1 : Value} (h1 : Ro (Kd.slice 2 (kf fI64)) w0 va1 a1) {r : List (List Int) × Bool} (hF : spec_l04Inverse a0 a1 = some r) :
    Calls Try.prog 57 [vI a0, va1].toArray w0 fun e w => ∃ v, e = .returned v ∧ Below w0.heap.size w0 w ∧ ∃ u0, .tuple #[u0, .bool r.2] = v ∧ Fresh (Kd.slice 2 (kf fI64)) 36 w0 w u0 r.1 := by
  refine calls_of (k := 183) Try.func57 rfl rfl (Nat.le_of_ble_eq_true rfl) fun a hf => ?_
  replace hf : Fr 183 a [(0, vI a0), (1, va1)] := hf
  refine c_start fun w ρ hw => ?_
  unfold spec_l04Inverse at hF
  refine c_seq <| c_region ?_
  have o1 : Ow (Kd.slice 2 (kf fI64)) 36 ρ w w0.heap.size 1 (.slice none 0 0) [] := Ow.nil _ _ _ _ _ _
  refine s_ hf (r_assign hf rfl) fun a hf => ?_
  refine s_ hf (r_assign hf rfl) fun a hf => ?_
  refine c_nt <| c_seq <| c_region ?_
  refine s_ hf (r_move hf rfl) fun a hf => ?_
  refine s_ hf (r_len Try.underlying24 (h1.now hw) hf rfl) fun a hf => ?_
  refine sx_ hf (r_lit_none (d := (Kd.slice 2 (kf fI64))) 2 Try.underlying24 el36 hw) fun a v2 w hf hΦ => ?_
  obtain ⟨ρ, hw, hE, o2⟩ := hΦ
  replace o1 := o1.ext hE
  replace o2 : Gd fI64 2 36 ρ w w0.heap.size 2 v2 (fun _ => (⟨.bool false, rfl⟩ : V1)) ([] : List Nat) ([] : List (List Int)) := Gd.empty o2 rfl (by decide) _
  refine s_ hf (r_assign hf rfl) fun a hf => ?_
  refine s_ hf (r_assign hf rfl) fun a hf => ?_
  refine c_nt <| c_seq <| c_seq <| c_region ?_
  refine s_ hf (r_assign hf rfl) fun a hf => ?_
  refine c_nt ?_
  obtain ⟨ol1, ho1, hG1⟩ := of_bind hF
  clear hF
  refine c_block (c_loop (id := 0) (fun s => spec_l04Inverse_l1 a1 s.1 s.2.1 s.2.2) (fun (s : Int × (List Nat) × (List (List Int))) a w => match s with | (s2, s3, s4) => ∃ ρ vv5 f6, Wd w0 ρ w ∧ Fr 183 a [(0, vI a0), (1, va1), (6, vI (a1.length : Int)), (7, vv5), (8, vI s2)] ∧ Gd fI64 2 36 ρ w w0.heap.size 2 vv5 f6 s3 s4) (fun (s : Int × (List Nat) × (List (List Int))) a w => match s with | (s2, s3, s4) => ∃ ρ vv5 f6, Wd w0 ρ w ∧ Fr 183 a [(0, vI a0), (6, vI (a1.length : Int)), (7, vv5)] ∧ Gd fI64 2 36 ρ w w0.heap.size 2 vv5 f6 s3 s4) ho1 ⟨_, _, _, hw, hf.sub ⟨rfl, rfl, rfl, rfl, rfl, trivial⟩, o2⟩ ?_ ?_)
  · rintro ⟨s2, s3, s4⟩ lr a w ⟨ρ, vv5, f6, hw, hf, o2⟩ hF
    replace hF : spec_l04Inverse_l1 a1 s2 s3 s4 = some lr := hF
    unfold spec_l04Inverse_l1 at hF
    refine c_seq <| c_seq <| c_region ?_
    refine s_ hf (r_move hf rfl) fun a hf => ?_
    refine s_ hf (r_move hf rfl) fun a hf => ?_
    refine s_ hf (r_lss hf rfl rfl) fun a hf => ?_
    refine c_nt ?_
    rcases of_ite hF with ⟨hb7, hF⟩ | ⟨hb7, hF⟩
    rotate_left
    · refine c_iff hf rfl hb7 <| c_exit <| x_then ?_
      obtain rfl := Option.some.inj hF
      exact Rnd.stops ⟨_, _, _, hw, hf.sub ⟨rfl, rfl, rfl, trivial⟩, o2⟩
    refine c_ift hf rfl hb7 <| c_skip <| n_then <| c_seq <| c_block <| c_seq <| c_region ?_
    refine s_ hf (r_move hf rfl) fun a hf => ?_
    refine s_ hf (r_move hf rfl) fun a hf => ?_
    obtain ⟨hc8, hF⟩ := of_guard hF
    obtain ⟨ad9, c9, u9, he9, hl9, ho9⟩ := Ro.el_row h1 hc8.1 hc8.2
    refine s_ hf (r_idx Try.underlying24 sz36 hf rfl ⟨_, he9⟩ rfl hc8.1 hc8.2) fun a hf => ?_
    refine s_ hf (r_load_cell ty36 hf rfl (hl9.below hw.below)) fun a hf => ?_
    obtain ⟨x10, hx11, hF⟩ := of_bind hF
    refine st_fn 3 hw hf rfl rfl (by decide) (r_fn en105 hf rfl) (spec_l01Own_ok (ho9.now hw) hx11) fun a v w ρ hf hw hE hN hΦ => ?_
    obtain ⟨u12, rfl, hr13⟩ := hΦ
    replace o2 := o2.ext hE
    have o3 := hN hr13
    refine s_ hf (r_assign hf rfl) fun a hf => ?_
    refine c_nt <| c_seq <| c_seq <| c_region ?_
    refine s_ hf (r_assign hf rfl) fun a hf => ?_
    refine c_nt ?_
    obtain ⟨ol14, ho14, hG14⟩ := of_bind hF
    clear hF
    refine c_block (c_loop (id := 2) (fun s => spec_l04Inverse_l14 a1 s2 s.1 s.2) (fun (s : Int × (List Int)) a w => match s with | (s15, s16) => ∃ ρ vv17, Wd w0 ρ w ∧ Fr 183 a [(0, vI a0), (1, va1), (6, vI (a1.length : Int)), (7, vv5), (8, vI s2), (9, vv17), (10, vI s15)] ∧ Gd fI64 2 36 ρ w w0.heap.size 2 vv5 f6 s3 s4 ∧ O2 ρ w w0 3 vv17 s16) (fun (s : Int × (List Int)) a w => match s with | (s15, s16) => ∃ ρ vv17, Wd w0 ρ w ∧ Fr 183 a [(0, vI a0), (1, va1), (6, vI (a1.length : Int)), (7, vv5), (8, vI s2), (9, vv17)] ∧ Gd fI64 2 36 ρ w w0.heap.size 2 vv5 f6 s3 s4 ∧ O2 ρ w w0 3 vv17 s16) ho14 ⟨_, _, hw, hf.sub ⟨rfl, rfl, rfl, rfl, rfl, rfl, rfl, trivial⟩, o2, o3⟩ ?_ ?_)
    · rintro ⟨s15, s16⟩ lr a w ⟨ρ, vv17, hw, hf, o2, o3⟩ hF
      replace hF : spec_l04Inverse_l14 a1 s2 s15 s16 = some lr := hF
      unfold spec_l04Inverse_l14 at hF
      refine c_seq <| c_seq <| c_region ?_
      refine s_ hf (r_move hf rfl) fun a hf => ?_
      refine s_ hf (r_move hf rfl) fun a hf => ?_
      refine s_ hf (r_lss hf rfl rfl) fun a hf => ?_
      refine c_nt ?_
      rcases of_ite hF with ⟨hb18, hF⟩ | ⟨hb18, hF⟩
      rotate_left
      · refine c_iff hf rfl hb18 <| c_exit <| x_then ?_
        obtain rfl := Option.some.inj hF
        exact Rnd.stops ⟨_, _, hw, hf.sub ⟨rfl, rfl, rfl, rfl, rfl, rfl, trivial⟩, o2, o3⟩
      refine c_ift hf rfl hb18 <| c_skip <| n_then <| c_seq <| c_block <| c_seq <| c_region ?_
      refine s_ hf (r_move hf rfl) fun a hf => ?_
      refine s_ hf (r_move hf rfl) fun a hf => ?_
      refine s_ hf (r_eql hf rfl rfl) fun a hf => ?_
      refine c_nt ?_
      rcases of_ite hF with ⟨hb19, hF⟩ | ⟨hb19, hF⟩
      · refine c_ift hf rfl hb19 <| c_region ?_
        refine s_ hf (r_move hf rfl) fun a hf => ?_
        refine sx_ hf (r_lit (d := fI64) (xs := ([1] : List Int)) (vs := [vI 1]) 4 Try.underlying36 el2 (Nat.le_of_ble_eq_true rfl) (Nat.le_of_ble_eq_true rfl) hw hf rfl rfl rfl) fun a v4 w hf hΦ => ?_
        obtain ⟨ρ, hw, hE, o4⟩ := hΦ
        replace o2 := o2.ext hE
        replace o3 := o3.ext hE
        obtain ⟨hc20, hF⟩ := of_guard hF
        refine sx_ hf (r_append Try.underlying36 el2 hw (by decide) o3 o4.ro hc20 hf rfl rfl) fun a va21 w hf hΦ => ?_
        obtain ⟨ρ, hw, hA, o3⟩ := hΦ
        replace o2 := o2.adv hA (by decide) (fun _ => by unfold lab; omega)
        replace o4 := o4.adv hA (by decide)
        refine s_ hf (r_assign hf rfl) fun a hf => ?_
        refine c_nil <| n_block <| n_then <| c_region ?_
        refine s_ hf (r_move hf rfl) fun a hf => ?_
        refine s_ hf (r_add hf rfl rfl) fun a hf => ?_
        refine s_ hf (r_assign hf rfl) fun a hf => ?_
        refine c_nil ?_
        obtain rfl := Option.some.inj hF
        exact Rnd.goes ⟨_, _, hw, hf.sub ⟨rfl, rfl, rfl, rfl, rfl, rfl, rfl, trivial⟩, o2, o3⟩
      refine c_iff hf rfl hb19 <| c_region ?_
      refine s_ hf (r_move hf rfl) fun a hf => ?_
      refine sx_ hf (r_lit (d := fI64) (xs := ([0] : List Int)) (vs := [vI 0]) 5 Try.underlying36 el2 (Nat.le_of_ble_eq_true rfl) (Nat.le_of_ble_eq_true rfl) hw hf rfl rfl rfl) fun a v5 w hf hΦ => ?_
      obtain ⟨ρ, hw, hE, o5⟩ := hΦ
      replace o2 := o2.ext hE
      replace o3 := o3.ext hE
      obtain ⟨hc22, hF⟩ := of_guard hF
      refine sx_ hf (r_append Try.underlying36 el2 hw (by decide) o3 o5.ro hc22 hf rfl rfl) fun a va23 w hf hΦ => ?_
      obtain ⟨ρ, hw, hA, o3⟩ := hΦ
      replace o2 := o2.adv hA (by decide) (fun _ => by unfold lab; omega)
      replace o5 := o5.adv hA (by decide)
      refine s_ hf (r_assign hf rfl) fun a hf => ?_
      refine c_nil <| n_block <| n_then <| c_region ?_
      refine s_ hf (r_move hf rfl) fun a hf => ?_
      refine s_ hf (r_add hf rfl rfl) fun a hf => ?_
      refine s_ hf (r_assign hf rfl) fun a hf => ?_
      refine c_nil ?_
      obtain rfl := Option.some.inj hF
      exact Rnd.goes ⟨_, _, hw, hf.sub ⟨rfl, rfl, rfl, rfl, rfl, rfl, rfl, trivial⟩, o2, o3⟩
    rintro ⟨s15, s16⟩ a w hs ⟨ρ, vv17, hw, hf, o2, o3⟩
    subst hs
    have hF := hG14
    dsimp only at hF
    refine x_block <| n_then <| c_region ?_
    refine s_ hf (r_move hf rfl) fun a hf => ?_
    refine s_ hf (r_move hf rfl) fun a hf => ?_
    refine sx_ hf (r_glit 6 Try.underlying24 el36 hw hf rfl o3) fun a v6 w hf hΦ => ?_
    obtain ⟨ρ, hw, hE, o6⟩ := hΦ
    replace o2 := o2.ext hE
    replace o3 := o3.ext hE
    obtain ⟨hc24, hF⟩ := of_guard hF
    refine sx_ hf (r_gapp' Try.underlying24 el36 hw (by decide) (by decide) (fun _ => by unfold lab; omega) o2 o6 o3 hc24 hf rfl rfl) fun a va25 w hf hΦ => ?_
    obtain ⟨f25, ρ, hw, hT, o2, hff25, hnu25⟩ := hΦ
    rw [hnu25] at hf
    have hn26 : s4.length < (s4 ++ [s16]).length := by simp
    refine s_ hf (r_assign hf rfl) fun a hf => ?_
    refine c_nil <| n_block <| n_then <| c_region ?_
    refine s_ hf (r_move hf rfl) fun a hf => ?_
    refine s_ hf (r_add hf rfl rfl) fun a hf => ?_
    refine s_ hf (r_assign hf rfl) fun a hf => ?_
    refine c_nil ?_
    obtain rfl := Option.some.inj hF
    exact Rnd.goes ⟨_, _, _, hw, hf.sub ⟨rfl, rfl, rfl, rfl, rfl, trivial⟩, o2⟩
  rintro ⟨s2, s3, s4⟩ a w hs ⟨ρ, vv5, f6, hw, hf, o2⟩
  subst hs
  have hF := hG1
  dsimp only at hF
  refine x_block <| n_then <| c_seq <| c_seq <| c_region ?_
  refine s_ hf (r_assign hf rfl) fun a hf => ?_
  refine c_nt ?_
  obtain ⟨ol27, ho27, hG27⟩ := of_bind hF
  clear hF
  refine c_block (c_loop (id := 4) (fun s => spec_l04Inverse_l27 a0 a1 s.1 s.2.1 s.2.2) (fun (s : Int × (List Nat) × (List (List Int))) a w => match s with | (s28, s29, s30) => ∃ ρ f31, Wd w0 ρ w ∧ Fr 183 a [(0, vI a0), (6, vI (a1.length : Int)), (7, vv5), (11, vI s28)] ∧ Gd fI64 2 36 ρ w w0.heap.size 2 vv5 f31 s29 s30) (fun (s : Int × (List Nat) × (List (List Int))) a w => match s with | (s28, s29, s30) => ∃ ρ f31, Wd w0 ρ w ∧ Fr 183 a [(6, vI (a1.length : Int)), (7, vv5)] ∧ Gd fI64 2 36 ρ w w0.heap.size 2 vv5 f31 s29 s30) ho27 ⟨_, _, hw, hf.sub ⟨rfl, rfl, rfl, rfl, trivial⟩, o2⟩ ?_ ?_)
  · rintro ⟨s28, s29, s30⟩ lr a w ⟨ρ, f31, hw, hf, o2⟩ hF
    replace hF : spec_l04Inverse_l27 a0 a1 s28 s29 s30 = some lr := hF
    unfold spec_l04Inverse_l27 at hF
    refine c_seq <| c_seq <| c_region ?_
    refine s_ hf (r_move hf rfl) fun a hf => ?_
    refine s_ hf (r_move hf rfl) fun a hf => ?_
    refine s_ hf (r_lss hf rfl rfl) fun a hf => ?_
    refine c_nt ?_
    rcases of_ite hF with ⟨hb32, hF⟩ | ⟨hb32, hF⟩
    rotate_left
    · refine c_iff hf rfl hb32 <| c_exit <| x_then ?_
      obtain rfl := Option.some.inj hF
      exact Rnd.stops ⟨_, _, hw, hf.sub ⟨rfl, rfl, trivial⟩, o2⟩
    refine c_ift hf rfl hb32 <| c_skip <| n_then <| c_seq <| c_block <| c_seq <| c_region ?_
    refine s_ hf (r_move hf rfl) fun a hf => ?_
    refine s_ hf (r_assign hf rfl) fun a hf => ?_
    refine c_nt <| c_seq ?_
    obtain ⟨ol33, ho33, hG33⟩ := of_bind hF
    clear hF
    refine c_block (c_loop (id := 6) (fun s => spec_l04Inverse_l33 a1 s28 s29 s30 s) (fun (s34 : Int) a w => ∃ ρ, Wd w0 ρ w ∧ Fr 183 a [(0, vI a0), (6, vI (a1.length : Int)), (7, vv5), (11, vI s28), (12, vI s34)] ∧ Gd fI64 2 36 ρ w w0.heap.size 2 vv5 f31 s29 s30) (fun (s34 : Int) a w => ∃ ρ, Wd w0 ρ w ∧ Fr 183 a [(0, vI a0), (6, vI (a1.length : Int)), (7, vv5), (11, vI s28), (12, vI s34)] ∧ Gd fI64 2 36 ρ w w0.heap.size 2 vv5 f31 s29 s30) ho33 ⟨_, hw, hf.sub ⟨rfl, rfl, rfl, rfl, rfl, trivial⟩, o2⟩ ?_ ?_)
    · rintro s34 lr a w ⟨ρ, hw, hf, o2⟩ hF
      replace hF : spec_l04Inverse_l33 a1 s28 s29 s30 s34 = some lr := hF
      unfold spec_l04Inverse_l33 at hF
      refine c_seq <| c_seq ?_
      obtain ⟨s36, hT35, hG35⟩ := of_bind hF
      clear hF
      refine c_meet (fun (s36 : Bool) a w => ∃ ρ, Wd w0 ρ w ∧ Fr 183 a [(0, vI a0), (6, vI (a1.length : Int)), (7, vv5), (11, vI s28), (12, vI s34), (72, .bool s36)] ∧ Gd fI64 2 36 ρ w w0.heap.size 2 vv5 f31 s29 s30) s36 ?_ ?_
      · have hF := hT35
        refine c_region ?_
        refine s_ hf (r_move hf rfl) fun a hf => ?_
        refine s_ hf (r_move hf rfl) fun a hf => ?_
        refine s_ hf (r_lss hf rfl rfl) fun a hf => ?_
        refine s_ hf (r_move hf rfl) fun a hf => ?_
        rcases of_ite hF with ⟨hb37, hF⟩ | ⟨hb37, hF⟩
        rotate_left
        · refine st_no (b := false) hf rfl rfl rfl hb37 rfl (by decide) fun a hf => ?_
          refine st_no (b := false) hf rfl rfl rfl hb37 rfl (by decide) fun a hf => ?_
          refine st_no (b := false) hf rfl rfl rfl hb37 rfl (by decide) fun a hf => ?_
          refine st_no (b := false) hf rfl rfl rfl hb37 rfl (by decide) fun a hf => ?_
          refine st_no (b := false) hf rfl rfl rfl hb37 rfl (by decide) fun a hf => ?_
          refine st_no (b := false) hf rfl rfl rfl hb37 rfl (by decide) fun a hf => ?_
          refine st_no (b := false) hf rfl rfl rfl hb37 rfl (by decide) fun a hf => ?_
          refine st_no (b := false) hf rfl rfl rfl hb37 rfl (by decide) fun a hf => ?_
          refine s_ hf (r_pick (b := false) hf rfl hb37 rfl) fun a hf => ?_
          refine c_nil ⟨rfl, ?_⟩
          obtain rfl := Option.some.inj hF
          exact ⟨_, hw, hf.sub ⟨rfl, rfl, rfl, rfl, rfl, rfl, trivial⟩, o2⟩
        refine st_g (b := true) hf rfl rfl rfl hb37 rfl (by decide) (r_move hf rfl) fun a hf => ?_
        refine st_g (b := true) hf rfl rfl rfl hb37 rfl (by decide) (r_move hf rfl) fun a hf => ?_
        obtain ⟨hc38, hF⟩ := of_guard hF
        obtain ⟨ad39, hl39⟩ := Ow.ce (d := fRef f31) o2.out 0 hc38.1 hc38.2
        have hn39 := o2.lt_gl hc38.1 hc38.2
        refine st_g (b := true) hf rfl rfl rfl hb37 rfl (by decide) (r_idx Try.underlying24 sz36 hf rfl hl39.at_ rfl hc38.1 hc38.2) fun a hf => ?_
        refine st_g (b := true) hf rfl rfl rfl hb37 rfl (by decide) (r_load_cell ty36 hf rfl hl39.co.cl) fun a hf => ?_
        refine st_g (b := true) hf rfl rfl rfl hb37 rfl (by decide) (r_move hf rfl) fun a hf => ?_
        obtain ⟨hc40, hF⟩ := of_guard hF
        obtain ⟨ad41, hl41⟩ := Ow.ce (d := fI64) (o2.rowAt hn39) 0 hc40.1 hc40.2
        refine st_g (b := true) hf rfl rfl rfl hb37 rfl (by decide) (r_idx Try.underlying36 sz2 hf rfl hl41.at_ rfl hc40.1 hc40.2) fun a hf => ?_
        refine st_g (b := true) hf rfl rfl rfl hb37 rfl (by decide) (r_load_cell ty2 hf rfl hl41.co.cl) fun a hf => ?_
        refine st_g (b := true) hf rfl rfl rfl hb37 rfl (by decide) (r_eql hf rfl rfl) fun a hf => ?_
        refine s_ hf (r_pick (b := true) hf rfl hb37 rfl) fun a hf => ?_
        refine c_nil ⟨rfl, ?_⟩
        obtain rfl := Option.some.inj hF
        exact ⟨_, hw, hf.sub ⟨rfl, rfl, rfl, rfl, rfl, rfl, trivial⟩, o2⟩
      rintro a w ⟨ρ, hw, hf, o2⟩
      have hF := hG35
      refine n_then ?_
      rcases of_ite hF with ⟨hb42, hF⟩ | ⟨hb42, hF⟩
      rotate_left
      · refine c_iff hf rfl hb42 <| c_exit <| x_then ?_
        obtain rfl := Option.some.inj hF
        exact Rnd.stops ⟨_, hw, hf.sub ⟨rfl, rfl, rfl, rfl, rfl, trivial⟩, o2⟩
      refine c_ift hf rfl hb42 <| c_skip <| n_then <| c_block <| c_region ?_
      refine s_ hf (r_move hf rfl) fun a hf => ?_
      refine s_ hf (r_add hf rfl rfl) fun a hf => ?_
      refine s_ hf (r_assign hf rfl) fun a hf => ?_
      refine c_nil <| n_block ?_
      obtain rfl := Option.some.inj hF
      exact Rnd.goes ⟨_, hw, hf.sub ⟨rfl, rfl, rfl, rfl, rfl, trivial⟩, o2⟩
    rintro s34 a w hs ⟨ρ, hw, hf, o2⟩
    subst hs
    have hF := hG33
    dsimp only at hF
    refine x_block <| n_then <| c_seq <| c_seq <| c_region ?_
    refine s_ hf (r_move hf rfl) fun a hf => ?_
    refine s_ hf (r_move hf rfl) fun a hf => ?_
    refine s_ hf (r_eql hf rfl rfl) fun a hf => ?_
    refine c_nt ?_
    rcases of_ite hF with ⟨hb43, hF⟩ | ⟨hb43, hF⟩
    · refine c_ift hf rfl hb43 <| c_seq <| c_region ?_
      have o11 : Ow (Kd.slice 2 (kf fI64)) 36 ρ w w0.heap.size 11 (.slice none 0 0) [] := Ow.nil _ _ _ _ _ _
      refine s_ hf (r_assign hf rfl) fun a hf => ?_
      refine s_ hf (r_assign hf rfl) fun a hf => ?_
      refine c_nt <| c_retc ?_
      obtain rfl := Option.some.inj hF
      refine r_then <| r_block <| r_then ?_
      refine Rnd.rets fun ho => ?_
      subst ho
      have hF := hG27
      dsimp only at hF
      obtain rfl := Option.some.inj hF
      refine r_block <| r_then <| c_ret hf (res_tt Try.results57 hf rfl rfl) ?_
      exact ⟨_, rfl, hw.below, ⟨_, rfl, o11.out⟩⟩
    refine c_iff hf rfl hb43 <| c_skip <| n_then <| c_seq <| c_region ?_
    refine s_ hf (r_move hf rfl) fun a hf => ?_
    refine s_ hf (r_move hf rfl) fun a hf => ?_
    obtain ⟨hc44, hF⟩ := of_guard hF
    obtain ⟨ad45, hl45⟩ := Ow.ce (d := fRef f31) o2.out 0 hc44.1 hc44.2
    have hn45 := o2.lt_gl hc44.1 hc44.2
    refine s_ hf (r_idx Try.underlying24 sz36 hf rfl hl45.at_ rfl hc44.1 hc44.2) fun a hf => ?_
    refine s_ hf (r_load_cell ty36 hf rfl hl45.co.cl) fun a hf => ?_
    refine sx_ hf (r_lit (d := fI64) (xs := ([] : List Int)) (vs := []) 14 Try.underlying36 el2 (Nat.le_of_ble_eq_true rfl) (Nat.le_of_ble_eq_true rfl) hw hf rfl rfl rfl) fun a v14 w hf hΦ => ?_
    obtain ⟨ρ, hw, hE, o14⟩ := hΦ
    replace o2 := o2.ext hE
    replace hl45 := hl45.ext hE
    refine s_ hf (r_assign hf rfl) fun a hf => ?_
    refine s_ hf (r_assign hf rfl) fun a hf => ?_
    refine c_nt <| c_seq <| c_region ?_
    refine s_ hf (r_move hf rfl) fun a hf => ?_
    refine s_ hf (r_move hf rfl) fun a hf => ?_
    refine s_ hf (r_move hf rfl) fun a hf => ?_
    refine s_ hf (r_move hf rfl) fun a hf => ?_
    obtain ⟨hc46, hF⟩ := of_guard hF
    obtain ⟨ad47, hl47⟩ := Ow.ce (d := fRef f31) o2.out 0 hc46.1 hc46.2
    have hn47 := o2.lt_gl hc46.1 hc46.2
    refine s_ hf (r_idx Try.underlying24 sz36 hf rfl hl47.at_ rfl hc46.1 hc46.2) fun a hf => ?_
    refine s_ hf (r_load_cell ty36 hf rfl hl47.co.cl) fun a hf => ?_
    obtain ⟨ad48, hl48⟩ := Ow.ce (d := fRef f31) o2.out 0 hc44.1 hc44.2
    have hn48 := o2.lt_gl hc44.1 hc44.2
    refine s_ hf (r_idx Try.underlying24 sz36 hf rfl hl48.at_ rfl hc44.1 hc44.2) fun a hf => ?_
    refine sk_ hf (r_gset (p := s34) hw o2 hn47 hc44.1 hc44.2 hl48.at_ ty36 rfl hf rfl rfl) fun a w hf hΦ => ?_
    obtain ⟨hw, hA, o2⟩ := hΦ
    replace o14 := o14.adv hA (by decide)
    refine c_nt <| c_seq <| c_region ?_
    refine s_ hf (r_move hf rfl) fun a hf => ?_
    refine s_ hf (r_move hf rfl) fun a hf => ?_
    refine s_ hf (r_move hf rfl) fun a hf => ?_
    obtain ⟨hc49, hF⟩ := of_guard hF
    obtain ⟨ad50, hl50⟩ := Ow.ce (d := fI64) (o2.rowAt hn45) 0 hc49.1 hc49.2
    refine s_ hf (r_idx Try.underlying36 sz2 hf rfl hl50.at_ rfl hc49.1 hc49.2) fun a hf => ?_
    refine s_ hf (r_load_cell ty2 hf rfl hl50.co.cl) fun a hf => ?_
    obtain ⟨x51, hx52, hF⟩ := of_bind hF
    refine st_fn 20 hw hf rfl rfl (by decide) (r_fn en113 hf rfl) (spec_l01Inverse_ok  hx52) fun a v w ρ hf hw hE hN hΦ => ?_
    obtain rfl := hΦ
    replace o2 := o2.ext hE
    replace o14 := o14.ext hE
    replace hl50 := hl50.ext hE
    refine s_ hf (r_assign hf rfl) fun a hf => ?_
    refine c_nt <| c_seq <| c_seq <| c_region ?_
    refine s_ hf (r_assign hf rfl) fun a hf => ?_
    refine c_nt ?_
    obtain ⟨ol53, ho53, hG53⟩ := of_bind hF
    clear hF
    refine c_block (c_loop (id := 8) (fun s => spec_l04Inverse_l53 a0 a1 s29 s30 s34 x51 s.1 s.2) (fun (s : Int × (List Int)) a w => match s with | (s54, s55) => ∃ ρ vv56, Wd w0 ρ w ∧ Fr 183 a [(0, vI a0), (6, vI (a1.length : Int)), (7, vv5), (11, vI s28), (13, (f31 (gl 0 s29 s34)).1), (14, vv56), (15, vI x51), (16, vI s54)] ∧ Gd fI64 2 36 ρ w w0.heap.size 2 vv5 f31 (s29.set s34.toNat (gl 0 s29 s28)) s30 ∧ (gl 0 s29 s34) < s30.length ∧ O2 ρ w w0 14 vv56 s55) (fun (s : Int × (List Int)) a w => match s with | (s54, s55) => ∃ ρ vv56, Wd w0 ρ w ∧ Fr 183 a [(0, vI a0), (6, vI (a1.length : Int)), (7, vv5), (11, vI s28), (14, vv56)] ∧ Gd fI64 2 36 ρ w w0.heap.size 2 vv5 f31 (s29.set s34.toNat (gl 0 s29 s28)) s30 ∧ O2 ρ w w0 14 vv56 s55) ho53 ⟨_, _, hw, hf.sub ⟨rfl, rfl, rfl, rfl, rfl, rfl, rfl, rfl, trivial⟩, o2, hn45, o14⟩ ?_ ?_)
    · rintro ⟨s54, s55⟩ lr a w ⟨ρ, vv56, hw, hf, o2, hn45, o14⟩ hF
      replace hF : spec_l04Inverse_l53 a0 a1 s29 s30 s34 x51 s54 s55 = some lr := hF
      unfold spec_l04Inverse_l53 at hF
      refine c_seq <| c_seq <| c_region ?_
      refine s_ hf (r_move hf rfl) fun a hf => ?_
      refine s_ hf (r_move hf rfl) fun a hf => ?_
      refine s_ hf (r_mul hf rfl rfl) fun a hf => ?_
      refine s_ hf (r_lss hf rfl rfl) fun a hf => ?_
      refine c_nt ?_
      rcases of_ite hF with ⟨hb57, hF⟩ | ⟨hb57, hF⟩
      rotate_left
      · refine c_iff hf rfl hb57 <| c_exit <| x_then ?_
        obtain rfl := Option.some.inj hF
        exact Rnd.stops ⟨_, _, hw, hf.sub ⟨rfl, rfl, rfl, rfl, rfl, trivial⟩, o2, o14⟩
      refine c_ift hf rfl hb57 <| c_skip <| n_then <| c_seq <| c_block <| c_region ?_
      refine s_ hf (r_move hf rfl) fun a hf => ?_
      refine s_ hf (r_move hf rfl) fun a hf => ?_
      refine s_ hf (r_move hf rfl) fun a hf => ?_
      obtain ⟨hc58, hF⟩ := of_guard hF
      obtain ⟨ad59, hl59⟩ := Ow.ce (d := fI64) (o2.rowAt hn45) 0 hc58.1 hc58.2
      refine s_ hf (r_idx Try.underlying36 sz2 hf rfl hl59.at_ rfl hc58.1 hc58.2) fun a hf => ?_
      refine s_ hf (r_load_cell ty2 hf rfl hl59.co.cl) fun a hf => ?_
      refine s_ hf (r_move hf rfl) fun a hf => ?_
      refine s_ hf (r_mul hf rfl rfl) fun a hf => ?_
      refine s_ hf (r_move hf rfl) fun a hf => ?_
      obtain ⟨hc60, hF⟩ := of_guard hF
      refine s_ hf (r_rem hf rfl rfl hc60) fun a hf => ?_
      refine sx_ hf (r_lit (d := fI64) (xs := ([(w64 ((gl 0 (s30.getD (gl 0 s29 s34) []) s54) * x51)).tmod a0] : List Int)) (vs := [vI ((w64 ((gl 0 (s30.getD (gl 0 s29 s34) []) s54) * x51)).tmod a0)]) 22 Try.underlying36 el2 (Nat.le_of_ble_eq_true rfl) (Nat.le_of_ble_eq_true rfl) hw hf rfl rfl rfl) fun a v22 w hf hΦ => ?_
      obtain ⟨ρ, hw, hE, o22⟩ := hΦ
      replace o2 := o2.ext hE
      replace o14 := o14.ext hE
      replace hl59 := hl59.ext hE
      obtain ⟨hc61, hF⟩ := of_guard hF
      refine sx_ hf (r_append Try.underlying36 el2 hw (by decide) o14 o22.ro hc61 hf rfl rfl) fun a va62 w hf hΦ => ?_
      obtain ⟨ρ, hw, hA, o14⟩ := hΦ
      replace o2 := o2.adv hA (by decide) (fun _ => by unfold lab; omega)
      replace hl59 := hl59.adv hA (by unfold lab; omega)
      replace o22 := o22.adv hA (by decide)
      refine s_ hf (r_assign hf rfl) fun a hf => ?_
      refine c_nil <| n_block <| n_then <| c_region ?_
      refine s_ hf (r_move hf rfl) fun a hf => ?_
      refine s_ hf (r_add hf rfl rfl) fun a hf => ?_
      refine s_ hf (r_assign hf rfl) fun a hf => ?_
      refine c_nil ?_
      obtain rfl := Option.some.inj hF
      exact Rnd.goes ⟨_, _, hw, hf.sub ⟨rfl, rfl, rfl, rfl, rfl, rfl, rfl, rfl, trivial⟩, o2, hn45, o14⟩
    rintro ⟨s54, s55⟩ a w hs ⟨ρ, vv56, hw, hf, o2, o14⟩
    subst hs
    have hF := hG53
    dsimp only at hF
    refine x_block <| n_then <| c_seq <| c_region ?_
    refine s_ hf (r_move hf rfl) fun a hf => ?_
    refine s_ hf (r_move hf rfl) fun a hf => ?_
    refine s_ hf (r_move hf rfl) fun a hf => ?_
    obtain ⟨hc63, hF⟩ := of_guard hF
    obtain ⟨ad64, hl64⟩ := Ow.ce (d := fRef f31) o2.out 0 hc63.1 hc63.2
    have hn64 := o2.lt_gl hc63.1 hc63.2
    refine s_ hf (r_idx Try.underlying24 sz36 hf rfl hl64.at_ rfl hc63.1 hc63.2) fun a hf => ?_
    refine sk_ hf (r_gput (p := s28) hw (by decide) (by decide) (fun _ => by unfold lab; omega) o2 o14 hc63.1 hc63.2 hl64.at_ ty36 rfl hf rfl rfl) fun a w hf hΦ => ?_
    obtain ⟨f65, ρ, hw, hT, o2, hff65, hnu65⟩ := hΦ
    rw [hnu65] at hf
    replace hn64 : (gl 0 (s29.set s34.toNat (gl 0 s29 s28)) s28) < (s30 ++ [s55]).length := Nat.lt_of_lt_of_le hn64 (by simp only [List.length_append, List.length_set] <;> omega)
    have hn66 : s30.length < (s30 ++ [s55]).length := by simp
    refine c_nt <| c_seq <| c_region ?_
    refine s_ hf (r_assign hf rfl) fun a hf => ?_
    refine c_nt ?_
    obtain ⟨ol67, ho67, hG67⟩ := of_bind hF
    clear hF
    refine c_block (c_loop (id := 10) (fun s => spec_l04Inverse_l67 a0 a1 s28 s30 s.1 s.2.1 s.2.2) (fun (s : Int × (List Nat) × (List (List Int))) a w => match s with | (s68, s69, s70) => ∃ ρ f71, Wd w0 ρ w ∧ Fr 183 a [(0, vI a0), (6, vI (a1.length : Int)), (7, vv5), (11, vI s28), (14, (f71 s30.length).1), (17, vI s68)] ∧ Gd fI64 2 36 ρ w w0.heap.size 2 vv5 f71 s69 s70 ∧ s30.length < s70.length) (fun (s : Int × (List Nat) × (List (List Int))) a w => match s with | (s68, s69, s70) => ∃ ρ f71, Wd w0 ρ w ∧ Fr 183 a [(0, vI a0), (6, vI (a1.length : Int)), (7, vv5), (11, vI s28)] ∧ Gd fI64 2 36 ρ w w0.heap.size 2 vv5 f71 s69 s70) ho67 ⟨_, _, hw, hf.sub ⟨rfl, rfl, rfl, rfl, rfl, rfl, trivial⟩, o2, hn66⟩ ?_ ?_)
    · rintro ⟨s68, s69, s70⟩ lr a w ⟨ρ, f71, hw, hf, o2, hn66⟩ hF
      replace hF : spec_l04Inverse_l67 a0 a1 s28 s30 s68 s69 s70 = some lr := hF
      unfold spec_l04Inverse_l67 at hF
      refine c_seq <| c_seq <| c_region ?_
      refine s_ hf (r_move hf rfl) fun a hf => ?_
      refine s_ hf (r_move hf rfl) fun a hf => ?_
      refine s_ hf (r_lss hf rfl rfl) fun a hf => ?_
      refine c_nt ?_
      rcases of_ite hF with ⟨hb72, hF⟩ | ⟨hb72, hF⟩
      rotate_left
      · refine c_iff hf rfl hb72 <| c_exit <| x_then ?_
        obtain rfl := Option.some.inj hF
        exact Rnd.stops ⟨_, _, hw, hf.sub ⟨rfl, rfl, rfl, rfl, trivial⟩, o2⟩
      refine c_ift hf rfl hb72 <| c_skip <| n_then <| c_seq <| c_block <| c_seq <| c_region ?_
      refine s_ hf (r_move hf rfl) fun a hf => ?_
      refine s_ hf (r_move hf rfl) fun a hf => ?_
      obtain ⟨hc73, hF⟩ := of_guard hF
      obtain ⟨ad74, hl74⟩ := Ow.ce (d := fRef f71) o2.out 0 hc73.1 hc73.2
      have hn74 := o2.lt_gl hc73.1 hc73.2
      refine s_ hf (r_idx Try.underlying24 sz36 hf rfl hl74.at_ rfl hc73.1 hc73.2) fun a hf => ?_
      refine s_ hf (r_load_cell ty36 hf rfl hl74.co.cl) fun a hf => ?_
      refine s_ hf (r_move hf rfl) fun a hf => ?_
      obtain ⟨hc75, hF⟩ := of_guard hF
      obtain ⟨ad76, hl76⟩ := Ow.ce (d := fI64) (o2.rowAt hn74) 0 hc75.1 hc75.2
      refine s_ hf (r_idx Try.underlying36 sz2 hf rfl hl76.at_ rfl hc75.1 hc75.2) fun a hf => ?_
      refine s_ hf (r_load_cell ty2 hf rfl hl76.co.cl) fun a hf => ?_
      refine sx_ hf (r_lit (d := fI64) (xs := ([] : List Int)) (vs := []) 29 Try.underlying36 el2 (Nat.le_of_ble_eq_true rfl) (Nat.le_of_ble_eq_true rfl) hw hf rfl rfl rfl) fun a v29 w hf hΦ => ?_
      obtain ⟨ρ, hw, hE, o29⟩ := hΦ
      replace o2 := o2.ext hE
      replace hl74 := hl74.ext hE
      replace hl76 := hl76.ext hE
      refine s_ hf (r_assign hf rfl) fun a hf => ?_
      refine s_ hf (r_assign hf rfl) fun a hf => ?_
      refine c_nt <| c_seq <| c_seq ?_
      obtain ⟨s78, hT77, hG77⟩ := of_bind hF
      clear hF
      refine c_meet (fun (s78 : Bool) a w => ∃ ρ, Wd w0 ρ w ∧ Fr 183 a [(0, vI a0), (6, vI (a1.length : Int)), (7, vv5), (11, vI s28), (14, (f71 s30.length).1), (17, vI s68), (18, vI (gl 0 (s70.getD (gl 0 s69 s68) []) s28)), (19, v29), (136, .bool s78)] ∧ Gd fI64 2 36 ρ w w0.heap.size 2 vv5 f71 s69 s70 ∧ s30.length < s70.length ∧ O2 ρ w w0 29 v29 ([] : List Int)) s78 ?_ ?_
      · have hF := hT77
        refine c_region ?_
        refine s_ hf (r_move hf rfl) fun a hf => ?_
        refine s_ hf (r_move hf rfl) fun a hf => ?_
        refine s_ hf (r_eql hf rfl rfl) fun a hf => ?_
        refine s_ hf (r_move hf rfl) fun a hf => ?_
        rcases of_ite hF with ⟨hb79, hF⟩ | ⟨hb79, hF⟩
        · refine st_no (b := true) hf rfl rfl rfl hb79 rfl (by decide) fun a hf => ?_
          refine st_no (b := true) hf rfl rfl rfl hb79 rfl (by decide) fun a hf => ?_
          refine s_ hf (r_pick (b := true) hf rfl hb79 rfl) fun a hf => ?_
          refine c_nil ⟨rfl, ?_⟩
          obtain rfl := Option.some.inj hF
          exact ⟨_, hw, hf.sub ⟨rfl, rfl, rfl, rfl, rfl, rfl, rfl, rfl, rfl, trivial⟩, o2, hn66, o29⟩
        refine st_g (b := false) hf rfl rfl rfl hb79 rfl (by decide) (r_move hf rfl) fun a hf => ?_
        refine st_g (b := false) hf rfl rfl rfl hb79 rfl (by decide) (r_eql hf rfl rfl) fun a hf => ?_
        refine s_ hf (r_pick (b := false) hf rfl hb79 rfl) fun a hf => ?_
        refine c_nil ⟨rfl, ?_⟩
        obtain rfl := Option.some.inj hF
        exact ⟨_, hw, hf.sub ⟨rfl, rfl, rfl, rfl, rfl, rfl, rfl, rfl, rfl, trivial⟩, o2, hn66, o29⟩
      rintro a w ⟨ρ, hw, hf, o2, hn66, o29⟩
      have hF := hG77
      refine n_then ?_
      rcases of_ite hF with ⟨hb80, hF⟩ | ⟨hb80, hF⟩
      · refine c_ift hf rfl hb80 <| c_exit <| x_then <| x_block <| n_then <| c_region ?_
        refine s_ hf (r_move hf rfl) fun a hf => ?_
        refine s_ hf (r_add hf rfl rfl) fun a hf => ?_
        refine s_ hf (r_assign hf rfl) fun a hf => ?_
        refine c_nil ?_
        obtain rfl := Option.some.inj hF
        exact Rnd.goes ⟨_, _, hw, hf.sub ⟨rfl, rfl, rfl, rfl, rfl, rfl, trivial⟩, o2, hn66⟩
      refine c_iff hf rfl hb80 <| c_skip <| n_then <| c_seq <| c_seq <| c_region ?_
      refine s_ hf (r_assign hf rfl) fun a hf => ?_
      refine c_nt ?_
      obtain ⟨ol81, ho81, hG81⟩ := of_bind hF
      clear hF
      refine c_block (c_loop (id := 12) (fun s => spec_l04Inverse_l81 a0 a1 s28 s30 s68 s69 s70 s.1 s.2) (fun (s : Int × (List Int)) a w => match s with | (s82, s83) => ∃ ρ vv84, Wd w0 ρ w ∧ Fr 183 a [(0, vI a0), (6, vI (a1.length : Int)), (7, vv5), (11, vI s28), (14, (f71 s30.length).1), (17, vI s68), (18, vI (gl 0 (s70.getD (gl 0 s69 s68) []) s28)), (19, vv84), (20, vI s82)] ∧ Gd fI64 2 36 ρ w w0.heap.size 2 vv5 f71 s69 s70 ∧ s30.length < s70.length ∧ O2 ρ w w0 29 vv84 s83) (fun (s : Int × (List Int)) a w => match s with | (s82, s83) => ∃ ρ vv84, Wd w0 ρ w ∧ Fr 183 a [(0, vI a0), (6, vI (a1.length : Int)), (7, vv5), (11, vI s28), (14, (f71 s30.length).1), (17, vI s68), (19, vv84)] ∧ Gd fI64 2 36 ρ w w0.heap.size 2 vv5 f71 s69 s70 ∧ s30.length < s70.length ∧ O2 ρ w w0 29 vv84 s83) ho81 ⟨_, _, hw, hf.sub ⟨rfl, rfl, rfl, rfl, rfl, rfl, rfl, rfl, rfl, trivial⟩, o2, hn66, o29⟩ ?_ ?_)
      · rintro ⟨s82, s83⟩ lr a w ⟨ρ, vv84, hw, hf, o2, hn66, o29⟩ hF
        replace hF : spec_l04Inverse_l81 a0 a1 s28 s30 s68 s69 s70 s82 s83 = some lr := hF
        unfold spec_l04Inverse_l81 at hF
        refine c_seq <| c_seq <| c_region ?_
        refine s_ hf (r_move hf rfl) fun a hf => ?_
        refine s_ hf (r_move hf rfl) fun a hf => ?_
        refine s_ hf (r_mul hf rfl rfl) fun a hf => ?_
        refine s_ hf (r_lss hf rfl rfl) fun a hf => ?_
        refine c_nt ?_
        rcases of_ite hF with ⟨hb85, hF⟩ | ⟨hb85, hF⟩
        rotate_left
        · refine c_iff hf rfl hb85 <| c_exit <| x_then ?_
          obtain rfl := Option.some.inj hF
          exact Rnd.stops ⟨_, _, hw, hf.sub ⟨rfl, rfl, rfl, rfl, rfl, rfl, rfl, trivial⟩, o2, hn66, o29⟩
        refine c_ift hf rfl hb85 <| c_skip <| n_then <| c_seq <| c_block ?_
        obtain ⟨hc87, hF⟩ := of_guard hF
        obtain ⟨hc89, hF⟩ := of_guard hF
        obtain ⟨x91, hx92, hF⟩ := of_bind hF
        replace hf : Fr 183 a [(0, vI a0), (6, vI (a1.length : Int)), (7, vv5), (11, vI s28), (14, (f71 s30.length).1), (17, vI s68), (18, vI (gl 0 (s70.getD (gl 0 s69 s68) []) s28)), (19, vv84), (20, vI s82)] := hf.sub ⟨rfl, rfl, rfl, rfl, rfl, rfl, rfl, rfl, rfl, trivial⟩
        refine c_drawL (h := 18) mixed (by kernel_rfl) (by kernel_rfl) (fun ρ w => Gd fI64 2 36 ρ w w0.heap.size 2 vv5 f71 s69 s70 ∧ s30.length < s70.length ∧ O2 ρ w w0 29 vv84 s83) ?_ [fun ρ w v => vv84 = v, fun ρ w v => vI a0 = v, fun ρ w v => vv5 = v, fun ρ w v => vI s68 = v, fun ρ w v => ∃ ad86, .pointer (some (ad86.add (s68.toNat * 1))) = v ∧ (gl 0 s69 s68) < s70.length ∧ Ce ρ w 2 vv5 s69.length ad86 (s68.toNat * 1) ([(f71 (gl 0 s69 s68)).1]), fun ρ w v => (f71 (gl 0 s69 s68)).1 = v ∧ (gl 0 s69 s68) < s70.length, fun ρ w v => vI s82 = v, fun ρ w v => ∃ ad88, .pointer (some (ad88.add (s82.toNat * 1))) = v ∧ Ce ρ w (lab 2 (gl 0 s69 s68)) ((f71 (gl 0 s69 s68)).1) ((s70.getD (gl 0 s69 s68) []).length) ad88 (s82.toNat * 1) (fI64.enc (gl 0 (s70.getD (gl 0 s69 s68) []) s82)), fun ρ w v => vI (gl 0 (s70.getD (gl 0 s69 s68) []) s82) = v, fun ρ w v => vI (gl 0 (s70.getD (gl 0 s69 s68) []) s28) = v, fun ρ w v => (f71 s30.length).1 = v, fun ρ w v => vI s82 = v, fun ρ w v => ∃ ad90, .pointer (some (ad90.add (s82.toNat * 1))) = v ∧ Ce ρ w (lab 2 s30.length) ((f71 s30.length).1) ((s70.getD s30.length []).length) ad90 (s82.toNat * 1) (fI64.enc (gl 0 (s70.getD s30.length []) s82)), fun ρ w v => vI (gl 0 (s70.getD s30.length []) s82) = v, fun ρ w v => vI (w64 ((gl 0 (s70.getD (gl 0 s69 s68) []) s28) * (gl 0 (s70.getD s30.length []) s82))) = v, fun ρ w v => vI (w64 ((gl 0 (s70.getD (gl 0 s69 s68) []) s82) - (w64 ((gl 0 (s70.getD (gl 0 s69 s68) []) s28) * (gl 0 (s70.getD s30.length []) s82))))) = v, fun ρ w v => vI x91 = v, fun ρ w v => ∃ v35, v35 = v ∧ O2 ρ w w0 35 v35 ([x91])] ?_ hw ⟨o2, hn66, o29⟩ hf ?_ ?_
        · intro ρ w ρ' w' hE hG
          obtain ⟨o2, hn66, o29⟩ := hG
          exact ⟨o2.ext hE, hn66, o29.ext hE⟩
        · exact LastsL.cons (fun _ _ _ _ _ _ h => h) <| LastsL.cons (fun _ _ _ _ _ _ h => h) <| LastsL.cons (fun _ _ _ _ _ _ h => h) <| LastsL.cons (fun _ _ _ _ _ _ h => h) <| LastsL.cons (fun _ _ _ _ _ hE h => by obtain ⟨ad86, h, hn86, hl86⟩ := h; exact ⟨_, h, hn86, hl86.ext hE⟩) <| LastsL.cons (fun _ _ _ _ _ hE h => by obtain ⟨h, hn86⟩ := h; exact ⟨h, hn86⟩) <| LastsL.cons (fun _ _ _ _ _ _ h => h) <| LastsL.cons (fun _ _ _ _ _ hE h => by obtain ⟨ad88, h, hl88⟩ := h; exact ⟨_, h, hl88.ext hE⟩) <| LastsL.cons (fun _ _ _ _ _ _ h => h) <| LastsL.cons (fun _ _ _ _ _ _ h => h) <| LastsL.cons (fun _ _ _ _ _ _ h => h) <| LastsL.cons (fun _ _ _ _ _ _ h => h) <| LastsL.cons (fun _ _ _ _ _ hE h => by obtain ⟨ad90, h, hl90⟩ := h; exact ⟨_, h, hl90.ext hE⟩) <| LastsL.cons (fun _ _ _ _ _ _ h => h) <| LastsL.cons (fun _ _ _ _ _ _ h => h) <| LastsL.cons (fun _ _ _ _ _ _ h => h) <| LastsL.cons (fun _ _ _ _ _ _ h => h) <| LastsL.cons (fun _ _ _ _ _ hE h => by obtain ⟨v35, h, o35⟩ := h; exact ⟨_, h, o35.ext hE⟩) <| LastsL.nil
        · refine StepsB.cons ?_ <| StepsB.cons ?_ <| StepsB.cons ?_ <| StepsB.cons ?_ <| StepsB.cons ?_ <| StepsB.cons ?_ <| StepsB.cons ?_ <| StepsB.cons ?_ <| StepsB.cons ?_ <| StepsB.cons ?_ <| StepsB.cons ?_ <| StepsB.cons ?_ <| StepsB.cons ?_ <| StepsB.cons ?_ <| StepsB.cons ?_ <| StepsB.cons ?_ <| StepsB.cons ?_ <| StepsB.cons ?_ <| StepsB.nil
          · intro ρ w a hw hG hf hd K hK
            obtain ⟨o2, hn66, o29⟩ := hG
            exact dv_ hK hw (wn rfl) (r_move hf rfl) rfl
          · intro ρ w a hw hG hf hd K hK
            obtain ⟨o2, hn66, o29⟩ := hG
            exact dv_ hK hw (wn rfl) (r_move hf rfl) rfl
          · intro ρ w a hw hG hf hd K hK
            obtain ⟨o2, hn66, o29⟩ := hG
            exact dv_ hK hw (wn rfl) (r_move hf rfl) rfl
          · intro ρ w a hw hG hf hd K hK
            obtain ⟨o2, hn66, o29⟩ := hG
            exact dv_ hK hw (wn rfl) (r_move hf rfl) rfl
          · intro ρ w a hw hG hf hd K hK
            obtain ⟨o2, hn66, o29⟩ := hG
            obtain ⟨_, hf, rfl⟩ := got (hd 2 (by kernel_rfl)) hf
            obtain ⟨_, hf, rfl⟩ := got (hd 3 (by kernel_rfl)) hf
            obtain ⟨ad86, hl86⟩ := Ow.ce (d := fRef f71) o2.out 0 hc73.1 hc73.2
            have hn86 := o2.lt_gl hc73.1 hc73.2
            exact dv_ hK hw (wn rfl) (r_idx Try.underlying24 sz36 hf rfl hl86.at_ rfl hc73.1 hc73.2) (ex_ <| an_ rfl <| an_ hn86 <| hl86)
          · intro ρ w a hw hG hf hd K hK
            obtain ⟨o2, hn66, o29⟩ := hG
            obtain ⟨_, hf, ⟨ad86, rfl, hn86, hl86⟩⟩ := got (hd 4 (by kernel_rfl)) hf
            exact dv_ hK hw (wn rfl) (r_load_cell ty36 hf rfl hl86.co.cl) (an_ rfl <| hn86)
          · intro ρ w a hw hG hf hd K hK
            obtain ⟨o2, hn66, o29⟩ := hG
            exact dv_ hK hw (wn rfl) (r_move hf rfl) rfl
          · intro ρ w a hw hG hf hd K hK
            obtain ⟨o2, hn66, o29⟩ := hG
            obtain ⟨_, hf, ⟨rfl, hn86⟩⟩ := got (hd 5 (by kernel_rfl)) hf
            obtain ⟨_, hf, rfl⟩ := got (hd 6 (by kernel_rfl)) hf
            obtain ⟨ad88, hl88⟩ := Ow.ce (d := fI64) (o2.rowAt hn86) 0 hc87.1 hc87.2
            exact dv_ hK hw (wn rfl) (r_idx Try.underlying36 sz2 hf rfl hl88.at_ rfl hc87.1 hc87.2) (ex_ <| an_ rfl <| hl88)
          · intro ρ w a hw hG hf hd K hK
            obtain ⟨o2, hn66, o29⟩ := hG
            obtain ⟨_, hf, ⟨ad88, rfl, hl88⟩⟩ := got (hd 7 (by kernel_rfl)) hf
            exact dv_ hK hw (wn rfl) (r_load_cell ty2 hf rfl hl88.co.cl) rfl
          · intro ρ w a hw hG hf hd K hK
            obtain ⟨o2, hn66, o29⟩ := hG
            exact dv_ hK hw (wn rfl) (r_move hf rfl) rfl
          · intro ρ w a hw hG hf hd K hK
            obtain ⟨o2, hn66, o29⟩ := hG
            exact dv_ hK hw (wn rfl) (r_move hf rfl) rfl
          · intro ρ w a hw hG hf hd K hK
            obtain ⟨o2, hn66, o29⟩ := hG
            exact dv_ hK hw (wn rfl) (r_move hf rfl) rfl
          · intro ρ w a hw hG hf hd K hK
            obtain ⟨o2, hn66, o29⟩ := hG
            obtain ⟨_, hf, rfl⟩ := got (hd 10 (by kernel_rfl)) hf
            obtain ⟨_, hf, rfl⟩ := got (hd 11 (by kernel_rfl)) hf
            obtain ⟨ad90, hl90⟩ := Ow.ce (d := fI64) (o2.rowAt hn66) 0 hc89.1 hc89.2
            exact dv_ hK hw (wn rfl) (r_idx Try.underlying36 sz2 hf rfl hl90.at_ rfl hc89.1 hc89.2) (ex_ <| an_ rfl <| hl90)
          · intro ρ w a hw hG hf hd K hK
            obtain ⟨o2, hn66, o29⟩ := hG
            obtain ⟨_, hf, ⟨ad90, rfl, hl90⟩⟩ := got (hd 12 (by kernel_rfl)) hf
            exact dv_ hK hw (wn rfl) (r_load_cell ty2 hf rfl hl90.co.cl) rfl
          · intro ρ w a hw hG hf hd K hK
            obtain ⟨o2, hn66, o29⟩ := hG
            obtain ⟨_, hf, rfl⟩ := got (hd 9 (by kernel_rfl)) hf
            obtain ⟨_, hf, rfl⟩ := got (hd 13 (by kernel_rfl)) hf
            exact dv_ hK hw (wn rfl) (r_mul hf rfl rfl) rfl
          · intro ρ w a hw hG hf hd K hK
            obtain ⟨o2, hn66, o29⟩ := hG
            obtain ⟨_, hf, rfl⟩ := got (hd 8 (by kernel_rfl)) hf
            obtain ⟨_, hf, rfl⟩ := got (hd 14 (by kernel_rfl)) hf
            exact dv_ hK hw (wn rfl) (r_sub hf rfl rfl) rfl
          · intro ρ w a hw hG hf hd K hK
            obtain ⟨o2, hn66, o29⟩ := hG
            obtain ⟨_, hf, rfl⟩ := got (hd 1 (by kernel_rfl)) hf
            obtain ⟨_, hf, rfl⟩ := got (hd 15 (by kernel_rfl)) hf
            refine dc_ hK hw (wn rfl) (r_fn en114 hf rfl) (spec_l01Mod_ok  hx92) fun v w' hΦ => ?_
            obtain ⟨hb, hΦ⟩ := hΦ
            obtain rfl := hΦ
            have hE := Ext.new (ρ := ρ) 34 hb
            exact ⟨_, hw.new 34 hb, hE, rfl⟩
          · intro ρ w a hw hG hf hd K hK
            obtain ⟨o2, hn66, o29⟩ := hG
            obtain ⟨_, hf, rfl⟩ := got (hd 16 (by kernel_rfl)) hf
            refine dx_ hK hw (wn rfl) (r_lit (d := fI64) (xs := ([x91] : List Int)) (vs := [vI x91]) 35 Try.underlying36 el2 (Nat.le_of_ble_eq_true rfl) (Nat.le_of_ble_eq_true rfl) hw hf rfl rfl rfl) fun v35 w' hΦ => ?_
            obtain ⟨ρ, hw, hE, o35⟩ := hΦ
            exact ⟨_, hw, hE, ex_ <| an_ rfl <| o35⟩
        intro ρ w a hw hG hf hd
        obtain ⟨o2, hn66, o29⟩ := hG
        obtain ⟨_, hf, rfl⟩ := got (hd 0 (by decide)) hf
        obtain ⟨_, hf, ⟨v35, rfl, o35⟩⟩ := got (hd 17 (by decide)) hf
        obtain ⟨hc93, hF⟩ := of_guard hF
        refine sx_ hf (r_append Try.underlying36 el2 hw (by decide) o29 o35.ro hc93 hf rfl rfl) fun a va94 w hf hΦ => ?_
        obtain ⟨ρ, hw, hA, o29⟩ := hΦ
        replace o2 := o2.adv hA (by decide) (fun _ => by unfold lab; omega)
        replace o35 := o35.adv hA (by decide)
        refine s_ hf (r_assign hf rfl) fun a hf => ?_
        refine c_nil <| n_block <| n_then <| c_region ?_
        refine s_ hf (r_move hf rfl) fun a hf => ?_
        refine s_ hf (r_add hf rfl rfl) fun a hf => ?_
        refine s_ hf (r_assign hf rfl) fun a hf => ?_
        refine c_nil ?_
        obtain rfl := Option.some.inj hF
        exact Rnd.goes ⟨_, _, hw, hf.sub ⟨rfl, rfl, rfl, rfl, rfl, rfl, rfl, rfl, rfl, trivial⟩, o2, hn66, o29⟩
      rintro ⟨s82, s83⟩ a w hs ⟨ρ, vv84, hw, hf, o2, hn66, o29⟩
      subst hs
      have hF := hG81
      dsimp only at hF
      refine x_block <| n_then <| c_region ?_
      refine s_ hf (r_move hf rfl) fun a hf => ?_
      refine s_ hf (r_move hf rfl) fun a hf => ?_
      refine s_ hf (r_move hf rfl) fun a hf => ?_
      obtain ⟨ad95, hl95⟩ := Ow.ce (d := fRef f71) o2.out 0 hc73.1 hc73.2
      have hn95 := o2.lt_gl hc73.1 hc73.2
      refine s_ hf (r_idx Try.underlying24 sz36 hf rfl hl95.at_ rfl hc73.1 hc73.2) fun a hf => ?_
      refine sk_ hf (r_gput (p := s68) hw (by decide) (by decide) (fun _ => by unfold lab; omega) o2 o29 hc73.1 hc73.2 hl95.at_ ty36 rfl hf rfl rfl) fun a w hf hΦ => ?_
      obtain ⟨f96, ρ, hw, hT, o2, hff96, hnu96⟩ := hΦ
      rw [hff96 _ hn66] at hf
      rw [hnu96] at hf
      replace hn66 : s30.length < (s70 ++ [s83]).length := Nat.lt_of_lt_of_le hn66 (by simp only [List.length_append, List.length_set] <;> omega)
      replace hn95 : (gl 0 s69 s68) < (s70 ++ [s83]).length := Nat.lt_of_lt_of_le hn95 (by simp only [List.length_append, List.length_set] <;> omega)
      have hn97 : s70.length < (s70 ++ [s83]).length := by simp
      refine c_nil <| n_block <| n_then <| c_region ?_
      refine s_ hf (r_move hf rfl) fun a hf => ?_
      refine s_ hf (r_add hf rfl rfl) fun a hf => ?_
      refine s_ hf (r_assign hf rfl) fun a hf => ?_
      refine c_nil ?_
      obtain rfl := Option.some.inj hF
      exact Rnd.goes ⟨_, _, hw, hf.sub ⟨rfl, rfl, rfl, rfl, rfl, rfl, trivial⟩, o2, hn66⟩
    rintro ⟨s68, s69, s70⟩ a w hs ⟨ρ, f71, hw, hf, o2⟩
    subst hs
    have hF := hG67
    dsimp only at hF
    refine x_block <| n_block <| n_then <| c_region ?_
    refine s_ hf (r_move hf rfl) fun a hf => ?_
    refine s_ hf (r_add hf rfl rfl) fun a hf => ?_
    refine s_ hf (r_assign hf rfl) fun a hf => ?_
    refine c_nil ?_
    obtain rfl := Option.some.inj hF
    exact Rnd.goes ⟨_, _, hw, hf.sub ⟨rfl, rfl, rfl, rfl, trivial⟩, o2⟩
  rintro ⟨s28, s29, s30⟩ a w hs ⟨ρ, f31, hw, hf, o2⟩
  subst hs
  have hF := hG27
  dsimp only at hF
  refine x_block <| n_then <| c_seq <| c_region ?_
  refine sx_ hf (r_lit_none (d := (Kd.slice 2 (kf fI64))) 39 Try.underlying24 el36 hw) fun a v39 w hf hΦ => ?_
  obtain ⟨ρ, hw, hE, o39⟩ := hΦ
  replace o2 := o2.ext hE
  replace o39 : Gd fI64 2 36 ρ w w0.heap.size 39 v39 (fun _ => (⟨.bool false, rfl⟩ : V1)) ([] : List Nat) ([] : List (List Int)) := Gd.empty o39 rfl (by decide) _
  refine s_ hf (r_assign hf rfl) fun a hf => ?_
  refine c_nt <| c_seq <| c_seq <| c_region ?_
  refine s_ hf (r_assign hf rfl) fun a hf => ?_
  refine c_nt ?_
  obtain ⟨ol98, ho98, hG98⟩ := of_bind hF
  clear hF
  refine c_block (c_loop (id := 14) (fun s => spec_l04Inverse_l98 a1 s29 s30 s.1 s.2.1 s.2.2) (fun (s : Int × (List Nat) × (List (List Int))) a w => match s with | (s99, s100, s101) => ∃ ρ vv102 f103, Wd w0 ρ w ∧ Fr 183 a [(6, vI (a1.length : Int)), (7, vv5), (21, vv102), (22, vI s99)] ∧ Gd fI64 2 36 ρ w w0.heap.size 2 vv5 f31 s29 s30 ∧ Gd fI64 2 36 ρ w w0.heap.size 39 vv102 f103 s100 s101) (fun (s : Int × (List Nat) × (List (List Int))) a w => match s with | (s99, s100, s101) => ∃ ρ vv102 f103, Wd w0 ρ w ∧ Fr 183 a [(21, vv102)] ∧ Gd fI64 2 36 ρ w w0.heap.size 39 vv102 f103 s100 s101) ho98 ⟨_, _, _, hw, hf.sub ⟨rfl, rfl, rfl, rfl, trivial⟩, o2, o39⟩ ?_ ?_)
  · rintro ⟨s99, s100, s101⟩ lr a w ⟨ρ, vv102, f103, hw, hf, o2, o39⟩ hF
    replace hF : spec_l04Inverse_l98 a1 s29 s30 s99 s100 s101 = some lr := hF
    unfold spec_l04Inverse_l98 at hF
    refine c_seq <| c_seq <| c_region ?_
    refine s_ hf (r_move hf rfl) fun a hf => ?_
    refine s_ hf (r_move hf rfl) fun a hf => ?_
    refine s_ hf (r_lss hf rfl rfl) fun a hf => ?_
    refine c_nt ?_
    rcases of_ite hF with ⟨hb104, hF⟩ | ⟨hb104, hF⟩
    rotate_left
    · refine c_iff hf rfl hb104 <| c_exit <| x_then ?_
      obtain rfl := Option.some.inj hF
      exact Rnd.stops ⟨_, _, _, hw, hf.sub ⟨rfl, trivial⟩, o39⟩
    refine c_ift hf rfl hb104 <| c_skip <| n_then <| c_seq <| c_block <| c_region ?_
    refine s_ hf (r_move hf rfl) fun a hf => ?_
    refine s_ hf (r_move hf rfl) fun a hf => ?_
    refine s_ hf (r_move hf rfl) fun a hf => ?_
    obtain ⟨hc105, hF⟩ := of_guard hF
    obtain ⟨ad106, hl106⟩ := Ow.ce (d := fRef f31) o2.out 0 hc105.1 hc105.2
    have hn106 := o2.lt_gl hc105.1 hc105.2
    refine s_ hf (r_idx Try.underlying24 sz36 hf rfl hl106.at_ rfl hc105.1 hc105.2) fun a hf => ?_
    refine s_ hf (r_load_cell ty36 hf rfl hl106.co.cl) fun a hf => ?_
    refine s_ hf (r_move hf rfl) fun a hf => ?_
    obtain ⟨hc107, hF⟩ := of_guard hF
    have o42 : Ro (kf fI64) w (cutV ((f31 (gl 0 s29 s99)).1) (a1.length : Int).toNat ((s30.getD (gl 0 s29 s99) []).length : Int).toNat 1) (((s30.getD (gl 0 s29 s99) []).take ((s30.getD (gl 0 s29 s99) []).length : Int).toNat).drop (a1.length : Int).toNat) := ro_cutV ((o2.rowAt hn106).ro) hc107.1 hc107.2 (Int.le_refl _)
    refine s_ hf (r_cut_v (lo := (a1.length : Int)) (hi := ((s30.getD (gl 0 s29 s99) []).length : Int)) Try.underlying36 sz2 rfl ((o2.rowAt hn106).ro) hf rfl (.inr ⟨_, rfl, rfl⟩) (.inl ⟨rfl, rfl⟩) hc107.1 hc107.2 (Int.le_refl _)) fun a hf => ?_
    obtain ⟨x108, hx109, hF⟩ := of_bind hF
    refine st_fn 43 hw hf rfl rfl (by decide) (r_fn en105 hf rfl) (spec_l01Own_ok o42 hx109) fun a v w ρ hf hw hE hN hΦ => ?_
    obtain ⟨u110, rfl, hr111⟩ := hΦ
    replace o2 := o2.ext hE
    replace o39 := o39.ext hE
    replace hl106 := hl106.ext hE
    replace o42 := o42.ext hE
    have o43 := hN hr111
    refine sx_ hf (r_glit 44 Try.underlying24 el36 hw hf rfl o43) fun a v44 w hf hΦ => ?_
    obtain ⟨ρ, hw, hE, o44⟩ := hΦ
    replace o2 := o2.ext hE
    replace o39 := o39.ext hE
    replace hl106 := hl106.ext hE
    replace o42 := o42.ext hE
    replace o43 := o43.ext hE
    obtain ⟨hc112, hF⟩ := of_guard hF
    refine sx_ hf (r_gapp' Try.underlying24 el36 hw (by decide) (by decide) (fun _ => by unfold lab; omega) o39 o44 o43 hc112 hf rfl rfl) fun a va113 w hf hΦ => ?_
    obtain ⟨f113, ρ, hw, hT, o39, hff113, hnu113⟩ := hΦ
    replace o2 := o2.tr (hT 2 (by decide) (by decide)) (fun _ => hT _ (by unfold lab; omega) (by unfold lab; omega))
    rw [hnu113] at hf
    have hn114 : s101.length < (s101 ++ [x108]).length := by simp
    refine s_ hf (r_assign hf rfl) fun a hf => ?_
    refine c_nil <| n_block <| n_then <| c_region ?_
    refine s_ hf (r_move hf rfl) fun a hf => ?_
    refine s_ hf (r_add hf rfl rfl) fun a hf => ?_
    refine s_ hf (r_assign hf rfl) fun a hf => ?_
    refine c_nil ?_
    obtain rfl := Option.some.inj hF
    exact Rnd.goes ⟨_, _, _, hw, hf.sub ⟨rfl, rfl, rfl, rfl, trivial⟩, o2, o39⟩
  rintro ⟨s99, s100, s101⟩ a w hs ⟨ρ, vv102, f103, hw, hf, o39⟩
  subst hs
  have hF := hG98
  dsimp only at hF
  refine x_block <| n_then <| c_seq <| c_region ?_
  refine s_ hf (r_move hf rfl) fun a hf => ?_
  refine s_ hf (r_assign hf rfl) fun a hf => ?_
  refine s_ hf (r_assign hf rfl) fun a hf => ?_
  refine c_nt <| c_retc ?_
  obtain rfl := Option.some.inj hF
  refine c_ret hf (res_tt Try.results57 hf rfl rfl) ?_
  exact ⟨_, rfl, hw.below, ⟨_, rfl, o39.fresh⟩⟩
/-! f54 -/
noncomputable def impl_isInvertible (a0 : Int) (a1 : List (List Int)) : Option Bool :=
  (impl_rank a0 a1).bind fun x1 => some (decide (x1 = (a1.length : Int)))
theorem impl_isInvertible_ok {w0 : World} {a0 : Int} {a1 : List (List Int)} {va1 : Value} (h1 : Ro (Kd.slice 2 (kf fI64)) w0 va1 a1) {r : Bool} (hF : impl_isInvertible a0 a1 = some r) :
    Calls Try.prog 54 [vI a0, va1].toArray w0 fun e w => ∃ v, e = .returned v ∧ Below w0.heap.size w0 w ∧ .bool r = v := by
  refine calls_of (k := 11) Try.func54 rfl rfl (Nat.le_of_ble_eq_true rfl) fun a hf => ?_
  replace hf : Fr 11 a [(0, vI a0), (1, va1)] := hf
  refine c_start fun w ρ hw => ?_
  unfold impl_isInvertible at hF
  refine c_seq <| c_region ?_
  refine s_ hf (r_assign hf rfl) fun a hf => ?_
  refine c_nt <| c_seq <| c_region ?_
  refine s_ hf (r_move hf rfl) fun a hf => ?_
  refine s_ hf (r_move hf rfl) fun a hf => ?_
  obtain ⟨x1, hx2, hF⟩ := of_bind hF
  refine st_fn 1 hw hf rfl rfl (by decide) (r_fn en106 hf rfl) (impl_rank_ok (h1.now hw) hx2) fun a v w ρ hf hw hE hN hΦ => ?_
  obtain rfl := hΦ
  refine s_ hf (r_move hf rfl) fun a hf => ?_
  refine s_ hf (r_len Try.underlying24 (h1.now hw) hf rfl) fun a hf => ?_
  refine s_ hf (r_eql hf rfl rfl) fun a hf => ?_
  refine s_ hf (r_assign hf rfl) fun a hf => ?_
  refine c_nt <| c_retc ?_
  obtain rfl := Option.some.inj hF
  refine c_ret hf (res_tmp Try.results54 hf rfl) ?_
  exact ⟨_, rfl, hw.below, rfl⟩
end Go.Proofs.YtB
