/- Functions of the program as plain functions, and that they compute these. Printed by gen.py. -/
import Derived.Test.YtaaghemmkbgldaaRsG3
set_option linter.unusedVariables false
set_option linter.unusedSimpArgs false
set_option maxRecDepth 4000
set_option maxHeartbeats 1000000
namespace Go.Proofs.YtB
open Go Go.RowKit Go.Proofs Go.Proofs.YtaaghemmkbgldaaW.PrintWords
/-! f11 -/
noncomputable def laws_FnExactReduceScheme (a0 : Sch) : Option Bool :=
  (laws_szScheme a0 1048576).bind fun x1 => if (decide (x1 < 0)) = true then (some (true)) else ((laws_toScheme a0).bind fun x4 => (spec_ReduceScheme x4).bind fun x8 => (laws_toScheme a0).bind fun x12 => (impl_ReduceScheme x12).bind fun x16 => ((laws_eqScheme x16.1 x8.1).bind fun x22 => if (!x22) = true then (some true) else (some (decide (x16.2 ≠ x8.2)))).bind fun (s21 : Bool) => if s21 = true then (some (false)) else ((laws_toScheme a0).bind fun x26 => (laws_eqScheme x12 x26).bind fun x30 => if (!x30) = true then (some (false)) else ((laws_markScheme x12 1).bind fun x33 => (if (decide (x33.1 < 0)) = true then (some true) else ((laws_eqScheme x16.1 x8.1).bind fun x38 => if (!x38) = true then (some true) else (some (decide (x16.2 ≠ x8.2))))).bind fun (s36 : Bool) => if s36 = true then (some (false)) else ((laws_markScheme x16.1 1).bind fun x42 => (laws_heldScheme (⟨x16.1.p, x16.1.n, x16.1.m, x16.1.k, x42.2⟩ : Sch) 1).bind fun x44 => if (decide (x44 < 0)) = true then (some (false)) else (if (decide (x44 ≠ x42.1)) = true then (some (false)) else ((laws_toScheme a0).bind fun x48 => (impl_ReduceScheme x48).bind fun x52 => ((laws_eqScheme x52.1 x8.1).bind fun x58 => if (!x58) = true then (some true) else (some (decide (x52.2 ≠ x8.2)))).bind fun (s57 : Bool) => if s57 = true then (some (false)) else ((laws_heldScheme (⟨x16.1.p, x16.1.n, x16.1.m, x16.1.k, x42.2⟩ : Sch) 1).bind fun x62 => if (decide (x62 < 0)) = true then (some (false)) else (if (decide (x62 ≠ x42.1)) = true then (some (false)) else (some (true))))))))))
theorem laws_FnExactReduceScheme_ok {w0 : World} {a0 : Sch} {va0 : Value} (h0 : Ro (kf cProd) w0 va0 a0.ps) {r : Bool} (hF : laws_FnExactReduceScheme a0 = some r) :
    Calls Try.prog 11 [.agg ([vI a0.p, vI a0.n, vI a0.m, vI a0.k, va0]).toArray].toArray w0 fun e w => ∃ v, e = .returned v ∧ Below w0.heap.size w0 w ∧ .bool r = v := by
  refine calls_of (k := 96) Try.func11 rfl rfl (Nat.le_of_ble_eq_true rfl) fun a hf => ?_
  replace hf : Fr 96 a [(0, .agg ([vI a0.p, vI a0.n, vI a0.m, vI a0.k, va0]).toArray)] := hf
  refine c_start fun w ρ hw => ?_
  unfold laws_FnExactReduceScheme at hF
  refine c_seq <| c_region ?_
  refine sx_ hf (r_box (cs := [vI a0.p, vI a0.n, vI a0.m, vI a0.k, va0]) 1 hw hf rfl rfl) fun a v w hf hΦ => ?_
  obtain ⟨g1, ρ, rfl, hw, hE, o1⟩ := hΦ
  refine s_ hf (r_assign hf rfl) fun a hf => ?_
  refine c_nt <| c_seq <| c_region ?_
  refine s_ hf (r_assign hf rfl) fun a hf => ?_
  refine c_nt <| c_seq <| c_region ?_
  refine s_ hf (r_load_agg ty24 hf rfl o1.cl rfl) fun a hf => ?_
  refine s_ hf (r_move hf rfl) fun a hf => ?_
  obtain ⟨x1, hx2, hF⟩ := of_bind hF
  refine st_fn 2 hw hf rfl rfl (by decide) (r_fn en13 hf rfl) (laws_szScheme_ok (a0 := a0) (h0.now hw) hx2) fun a v w ρ hf hw hE hN hΦ => ?_
  obtain rfl := hΦ
  replace o1 := o1.ext hE
  refine s_ hf (r_assign hf rfl) fun a hf => ?_
  refine c_nt <| c_seq <| c_seq <| c_region ?_
  refine s_ hf (r_move hf rfl) fun a hf => ?_
  refine s_ hf (r_lss hf rfl rfl) fun a hf => ?_
  refine c_nt ?_
  rcases of_ite hF with ⟨hb3, hF⟩ | ⟨hb3, hF⟩
  · refine c_ift hf rfl hb3 <| c_seq <| c_region ?_
    refine s_ hf (r_assign hf rfl) fun a hf => ?_
    refine c_nt <| c_retc ?_
    obtain rfl := Option.some.inj hF
    refine r_then <| c_ret hf (res_tmp Try.results11 hf rfl) ?_
    exact ⟨_, rfl, hw.below, rfl⟩
  refine c_iff hf rfl hb3 <| c_skip <| n_then <| c_seq <| c_region ?_
  refine s_ hf (r_load_agg ty24 hf rfl o1.cl rfl) fun a hf => ?_
  obtain ⟨x4, hx5, hF⟩ := of_bind hF
  refine st_fn 3 hw hf rfl rfl (by decide) (r_fn en15 hf rfl) (laws_toScheme_ok (a0 := a0) (h0.now hw) hx5) fun a v w ρ hf hw hE hN hΦ => ?_
  obtain ⟨u6, rfl, hr7⟩ := hΦ
  replace o1 := o1.ext hE
  have o3 := hN hr7
  obtain ⟨x8, hx9, hF⟩ := of_bind hF
  refine st_fn 4 hw hf rfl rfl (by decide) (r_fn en50 hf rfl) (spec_ReduceScheme_ok (a0 := x4) o3.ro hx9) fun a v w ρ hf hw hE hN hΦ => ?_
  obtain ⟨u10, rfl, hr11⟩ := hΦ
  replace o1 := o1.ext hE
  replace o3 := o3.ext hE
  have o4 := hN hr11
  refine s_ hf (r_move hf rfl) fun a hf => ?_
  refine s_ hf (r_extract hf rfl rfl) fun a hf => ?_
  refine s_ hf (r_extract hf rfl rfl) fun a hf => ?_
  have o6 : Ow (kf cProd) 78 ρ w w0.heap.size 6 (.slice none 0 0) [] := Ow.nil _ _ _ _ _ _
  refine sx_ hf (r_alloc (cs := [vI 0, vI 0, vI 0, vI 0, (.slice none 0 0)]) 5 ze28 rfl hw) fun a v w hf hΦ => ?_
  obtain ⟨g5, ρ, rfl, hw, hE, o5⟩ := hΦ
  replace o1 := o1.ext hE
  replace o3 := o3.ext hE
  replace o4 := o4.ext hE
  replace o6 := o6.ext hE
  refine sk_ hf (r_store_w (cs' := [vI x8.1.p, vI x8.1.n, vI x8.1.m, vI x8.1.k, u10]) hw o5 (by decide) ty28 rfl rfl (one_sch o4.ro.one) hf rfl rfl rfl) fun a w hf hΦ => ?_
  obtain ⟨hw, hA, o5⟩ := hΦ
  replace o1 := o1.adv hA (by decide)
  replace o3 := o3.adv hA (by decide)
  replace o4 := o4.adv hA (by decide)
  replace o6 := o6.adv hA (by decide)
  refine s_ hf (r_assign hf rfl) fun a hf => ?_
  refine c_nt <| c_seq <| c_region ?_
  refine s_ hf (r_load_agg ty24 hf rfl o1.cl rfl) fun a hf => ?_
  obtain ⟨x12, hx13, hF⟩ := of_bind hF
  refine st_fn 7 hw hf rfl rfl (by decide) (r_fn en15 hf rfl) (laws_toScheme_ok (a0 := a0) (h0.now hw) hx13) fun a v w ρ hf hw hE hN hΦ => ?_
  obtain ⟨u14, rfl, hr15⟩ := hΦ
  replace o1 := o1.ext hE
  replace o3 := o3.ext hE
  replace o4 := o4.ext hE
  replace o6 := o6.ext hE
  replace o5 := o5.ext hE
  have o7 := hN hr15
  have o9 : Ow (kf cProd) 78 ρ w w0.heap.size 9 (.slice none 0 0) [] := Ow.nil _ _ _ _ _ _
  refine sx_ hf (r_alloc (cs := [vI 0, vI 0, vI 0, vI 0, (.slice none 0 0)]) 8 ze28 rfl hw) fun a v w hf hΦ => ?_
  obtain ⟨g8, ρ, rfl, hw, hE, o8⟩ := hΦ
  replace o1 := o1.ext hE
  replace o3 := o3.ext hE
  replace o4 := o4.ext hE
  replace o6 := o6.ext hE
  replace o5 := o5.ext hE
  replace o7 := o7.ext hE
  replace o9 := o9.ext hE
  refine sk_ hf (r_store_w (cs' := [vI x12.p, vI x12.n, vI x12.m, vI x12.k, u14]) hw o8 (by decide) ty28 rfl rfl (one_sch o7.ro.one) hf rfl rfl rfl) fun a w hf hΦ => ?_
  obtain ⟨hw, hA, o8⟩ := hΦ
  replace o1 := o1.adv hA (by decide)
  replace o3 := o3.adv hA (by decide)
  replace o4 := o4.adv hA (by decide)
  replace o6 := o6.adv hA (by decide)
  replace o5 := o5.adv hA (by decide)
  replace o7 := o7.adv hA (by decide)
  replace o9 := o9.adv hA (by decide)
  refine c_nt <| c_seq <| c_region ?_
  refine s_ hf (r_load_agg ty28 hf rfl o8.cl rfl) fun a hf => ?_
  obtain ⟨x16, hx17, hF⟩ := of_bind hF
  refine st_fn 10 hw hf rfl rfl (by decide) (r_fn en51 hf rfl) (impl_ReduceScheme_ok (a0 := x12) o7.ro hx17) fun a v w ρ hf hw hE hN hΦ => ?_
  obtain ⟨u18, rfl, hr19⟩ := hΦ
  replace o1 := o1.ext hE
  replace o3 := o3.ext hE
  replace o4 := o4.ext hE
  replace o6 := o6.ext hE
  replace o5 := o5.ext hE
  replace o7 := o7.ext hE
  replace o9 := o9.ext hE
  replace o8 := o8.ext hE
  have o10 := hN hr19
  refine s_ hf (r_move hf rfl) fun a hf => ?_
  refine s_ hf (r_extract hf rfl rfl) fun a hf => ?_
  refine s_ hf (r_extract hf rfl rfl) fun a hf => ?_
  have o12 : Ow (kf cProd) 78 ρ w w0.heap.size 12 (.slice none 0 0) [] := Ow.nil _ _ _ _ _ _
  refine sx_ hf (r_alloc (cs := [vI 0, vI 0, vI 0, vI 0, (.slice none 0 0)]) 11 ze28 rfl hw) fun a v w hf hΦ => ?_
  obtain ⟨g11, ρ, rfl, hw, hE, o11⟩ := hΦ
  replace o1 := o1.ext hE
  replace o3 := o3.ext hE
  replace o4 := o4.ext hE
  replace o6 := o6.ext hE
  replace o5 := o5.ext hE
  replace o7 := o7.ext hE
  replace o9 := o9.ext hE
  replace o8 := o8.ext hE
  replace o10 := o10.ext hE
  replace o12 := o12.ext hE
  refine sk_ hf (r_store_w (cs' := [vI x16.1.p, vI x16.1.n, vI x16.1.m, vI x16.1.k, u18]) hw o11 (by decide) ty28 rfl rfl (one_sch o10.ro.one) hf rfl rfl rfl) fun a w hf hΦ => ?_
  obtain ⟨hw, hA, o11⟩ := hΦ
  replace o1 := o1.adv hA (by decide)
  replace o3 := o3.adv hA (by decide)
  replace o4 := o4.adv hA (by decide)
  replace o6 := o6.adv hA (by decide)
  replace o5 := o5.adv hA (by decide)
  replace o7 := o7.adv hA (by decide)
  replace o9 := o9.adv hA (by decide)
  replace o8 := o8.adv hA (by decide)
  replace o10 := o10.adv hA (by decide)
  replace o12 := o12.adv hA (by decide)
  refine s_ hf (r_assign hf rfl) fun a hf => ?_
  refine c_nt <| c_seq <| c_seq ?_
  obtain ⟨s21, hT20, hG20⟩ := of_bind hF
  clear hF
  refine c_meet (fun (s21 : Bool) a w => ∃ ρ, Wd w0 ρ w ∧ Fr 96 a [(1, .pointer (some ((⟨g1, 0, none⟩ : Addr).add 0))), (4, .pointer (some ((⟨g5, 0, none⟩ : Addr).add 0))), (5, vI x8.2), (6, .pointer (some ((⟨g8, 0, none⟩ : Addr).add 0))), (7, .pointer (some ((⟨g11, 0, none⟩ : Addr).add 0))), (8, vI x16.2), (40, .bool s21)] ∧ Va ρ w 1 g1 24 ([vI a0.p, vI a0.n, vI a0.m, vI a0.k, va0]) ∧ O78 ρ w w0 4 u10 x8.1.ps ∧ Va ρ w 5 g5 28 ([vI x8.1.p, vI x8.1.n, vI x8.1.m, vI x8.1.k, u10]) ∧ O78 ρ w w0 7 u14 x12.ps ∧ Va ρ w 8 g8 28 ([vI x12.p, vI x12.n, vI x12.m, vI x12.k, u14]) ∧ O78 ρ w w0 10 u18 x16.1.ps ∧ Va ρ w 11 g11 28 ([vI x16.1.p, vI x16.1.n, vI x16.1.m, vI x16.1.k, u18])) s21 ?_ ?_
  · have hF := hT20
    refine c_region ?_
    refine s_ hf (r_load_agg ty28 hf rfl o11.cl rfl) fun a hf => ?_
    refine s_ hf (r_load_agg ty28 hf rfl o5.cl rfl) fun a hf => ?_
    obtain ⟨x22, hx23, hF⟩ := of_bind hF
    refine st_fn 13 hw hf rfl rfl (by decide) (r_fn en17 hf rfl) (laws_eqScheme_ok (a0 := x16.1) (a1 := x8.1) o10.ro o4.ro hx23) fun a v w ρ hf hw hE hN hΦ => ?_
    obtain rfl := hΦ
    replace o1 := o1.ext hE
    replace o3 := o3.ext hE
    replace o4 := o4.ext hE
    replace o6 := o6.ext hE
    replace o5 := o5.ext hE
    replace o7 := o7.ext hE
    replace o9 := o9.ext hE
    replace o8 := o8.ext hE
    replace o10 := o10.ext hE
    replace o12 := o12.ext hE
    replace o11 := o11.ext hE
    refine s_ hf (r_not hf rfl) fun a hf => ?_
    refine s_ hf (r_move hf rfl) fun a hf => ?_
    rcases of_ite hF with ⟨hb24, hF⟩ | ⟨hb24, hF⟩
    · refine st_no (b := true) hf rfl rfl rfl hb24 rfl (by decide) fun a hf => ?_
      refine st_no (b := true) hf rfl rfl rfl hb24 rfl (by decide) fun a hf => ?_
      refine st_no (b := true) hf rfl rfl rfl hb24 rfl (by decide) fun a hf => ?_
      refine s_ hf (r_pick (b := true) hf rfl hb24 rfl) fun a hf => ?_
      refine c_nil ⟨rfl, ?_⟩
      obtain rfl := Option.some.inj hF
      exact ⟨_, hw, hf.sub ⟨rfl, rfl, rfl, rfl, rfl, rfl, rfl, trivial⟩, o1, o4, o5, o7, o8, o10, o11⟩
    refine st_g (b := false) hf rfl rfl rfl hb24 rfl (by decide) (r_move hf rfl) fun a hf => ?_
    refine st_g (b := false) hf rfl rfl rfl hb24 rfl (by decide) (r_move hf rfl) fun a hf => ?_
    refine st_g (b := false) hf rfl rfl rfl hb24 rfl (by decide) (r_neq hf rfl rfl) fun a hf => ?_
    refine s_ hf (r_pick (b := false) hf rfl hb24 rfl) fun a hf => ?_
    refine c_nil ⟨rfl, ?_⟩
    obtain rfl := Option.some.inj hF
    exact ⟨_, hw, hf.sub ⟨rfl, rfl, rfl, rfl, rfl, rfl, rfl, trivial⟩, o1, o4, o5, o7, o8, o10, o11⟩
  rintro a w ⟨ρ, hw, hf, o1, o4, o5, o7, o8, o10, o11⟩
  have hF := hG20
  refine n_then ?_
  rcases of_ite hF with ⟨hb25, hF⟩ | ⟨hb25, hF⟩
  · refine c_ift hf rfl hb25 <| c_seq <| c_region ?_
    refine s_ hf (r_assign hf rfl) fun a hf => ?_
    refine c_nt <| c_retc ?_
    obtain rfl := Option.some.inj hF
    refine r_then <| c_ret hf (res_tmp Try.results11 hf rfl) ?_
    exact ⟨_, rfl, hw.below, rfl⟩
  refine c_iff hf rfl hb25 <| c_skip <| n_then <| c_seq <| c_seq ?_
  obtain ⟨x26, hx27, hF⟩ := of_bind hF
  replace hf : Fr 96 a [(1, .pointer (some ((⟨g1, 0, none⟩ : Addr).add 0))), (4, .pointer (some ((⟨g5, 0, none⟩ : Addr).add 0))), (5, vI x8.2), (6, .pointer (some ((⟨g8, 0, none⟩ : Addr).add 0))), (7, .pointer (some ((⟨g11, 0, none⟩ : Addr).add 0))), (8, vI x16.2)] := hf.sub ⟨rfl, rfl, rfl, rfl, rfl, rfl, trivial⟩
  refine c_drawL (h := 3) mixed (by kernel_rfl) (by kernel_rfl) (fun ρ w => Va ρ w 1 g1 24 ([vI a0.p, vI a0.n, vI a0.m, vI a0.k, va0]) ∧ O78 ρ w w0 4 u10 x8.1.ps ∧ Va ρ w 5 g5 28 ([vI x8.1.p, vI x8.1.n, vI x8.1.m, vI x8.1.k, u10]) ∧ O78 ρ w w0 7 u14 x12.ps ∧ Va ρ w 8 g8 28 ([vI x12.p, vI x12.n, vI x12.m, vI x12.k, u14]) ∧ O78 ρ w w0 10 u18 x16.1.ps ∧ Va ρ w 11 g11 28 ([vI x16.1.p, vI x16.1.n, vI x16.1.m, vI x16.1.k, u18])) ?_ [fun ρ w v => .agg ([vI x12.p, vI x12.n, vI x12.m, vI x12.k, u14]).toArray = v, fun ρ w v => .agg ([vI a0.p, vI a0.n, vI a0.m, vI a0.k, va0]).toArray = v, fun ρ w v => ∃ u28, .agg ([vI x26.p, vI x26.n, vI x26.m, vI x26.k, u28]).toArray = v ∧ O78 ρ w w0 14 u28 x26.ps] ?_ hw ⟨o1, o4, o5, o7, o8, o10, o11⟩ hf ?_ ?_
  · intro ρ w ρ' w' hE hG
    obtain ⟨o1, o4, o5, o7, o8, o10, o11⟩ := hG
    exact ⟨o1.ext hE, o4.ext hE, o5.ext hE, o7.ext hE, o8.ext hE, o10.ext hE, o11.ext hE⟩
  · exact LastsL.cons (fun _ _ _ _ _ _ h => h) <| LastsL.cons (fun _ _ _ _ _ _ h => h) <| LastsL.cons (fun _ _ _ _ _ hE h => by obtain ⟨u28, h, o14⟩ := h; exact ⟨_, h, o14.ext hE⟩) <| LastsL.nil
  · refine StepsB.cons ?_ <| StepsB.cons ?_ <| StepsB.cons ?_ <| StepsB.nil
    · intro ρ w a hw hG hf hd K hK
      obtain ⟨o1, o4, o5, o7, o8, o10, o11⟩ := hG
      exact dv_ hK hw (wn rfl) (r_load_agg ty28 hf rfl o8.cl rfl) rfl
    · intro ρ w a hw hG hf hd K hK
      obtain ⟨o1, o4, o5, o7, o8, o10, o11⟩ := hG
      exact dv_ hK hw (wn rfl) (r_load_agg ty24 hf rfl o1.cl rfl) rfl
    · intro ρ w a hw hG hf hd K hK
      obtain ⟨o1, o4, o5, o7, o8, o10, o11⟩ := hG
      obtain ⟨_, hf, rfl⟩ := got (hd 1 (by kernel_rfl)) hf
      refine dc_ hK hw (wn rfl) (r_fn en15 hf rfl) (laws_toScheme_ok (a0 := a0) (h0.now hw) hx27) fun v w' hΦ => ?_
      obtain ⟨hb, hΦ⟩ := hΦ
      obtain ⟨u28, rfl, hr29⟩ := hΦ
      have hE := Ext.new (ρ := ρ) 14 hb
      have o14 := Fresh.own (ρ := ρ) (B := w0.heap.size) hr29 hw.below.size 14
      exact ⟨_, hw.new 14 hb, hE, ex_ <| an_ rfl <| o14⟩
  intro ρ w a hw hG hf hd
  obtain ⟨o1, o4, o5, o7, o8, o10, o11⟩ := hG
  obtain ⟨_, hf, rfl⟩ := got (hd 0 (by decide)) hf
  obtain ⟨_, hf, ⟨u28, rfl, o14⟩⟩ := got (hd 2 (by decide)) hf
  obtain ⟨x30, hx31, hF⟩ := of_bind hF
  refine st_fn 15 hw hf rfl rfl (by decide) (r_fn en17 hf rfl) (laws_eqScheme_ok (a0 := x12) (a1 := x26) o7.ro o14.ro hx31) fun a v w ρ hf hw hE hN hΦ => ?_
  obtain rfl := hΦ
  replace o1 := o1.ext hE
  replace o4 := o4.ext hE
  replace o5 := o5.ext hE
  replace o7 := o7.ext hE
  replace o8 := o8.ext hE
  replace o10 := o10.ext hE
  replace o11 := o11.ext hE
  replace o14 := o14.ext hE
  refine s_ hf (r_not hf rfl) fun a hf => ?_
  refine c_nt ?_
  rcases of_ite hF with ⟨hb32, hF⟩ | ⟨hb32, hF⟩
  · refine c_ift hf rfl hb32 <| c_seq <| c_region ?_
    refine s_ hf (r_assign hf rfl) fun a hf => ?_
    refine c_nt <| c_retc ?_
    obtain rfl := Option.some.inj hF
    refine r_then <| c_ret hf (res_tmp Try.results11 hf rfl) ?_
    exact ⟨_, rfl, hw.below, rfl⟩
  refine c_iff hf rfl hb32 <| c_skip <| n_then <| c_seq <| c_region ?_
  refine s_ hf (r_assign hf rfl) fun a hf => ?_
  refine c_nt <| c_seq <| c_region ?_
  refine s_ hf (r_load_agg ty28 hf rfl o8.cl rfl) fun a hf => ?_
  refine s_ hf (r_move hf rfl) fun a hf => ?_
  obtain ⟨x33, hx34, hF⟩ := of_bind hF
  refine st_mfn hf rfl rfl (by decide) (r_fn en18 hf rfl) (laws_markScheme_ok (a0 := x12) (by decide) hw o7 hx34) fun a v w ρ hf hw hA hΦ => ?_
  obtain ⟨rfl, o7⟩ := hΦ
  replace o1 := o1.adv hA (by decide)
  replace o4 := o4.adv hA (by decide)
  replace o5 := o5.adv hA (by decide)
  replace o8 := o8.adv hA (by decide)
  replace o10 := o10.adv hA (by decide)
  replace o11 := o11.adv hA (by decide)
  replace o14 := o14.adv hA (by decide)
  refine s_ hf (r_assign hf rfl) fun a hf => ?_
  refine c_nt <| c_seq <| c_seq ?_
  obtain ⟨s36, hT35, hG35⟩ := of_bind hF
  clear hF
  refine c_meet (fun (s36 : Bool) a w => ∃ ρ, Wd w0 ρ w ∧ Fr 96 a [(1, .pointer (some ((⟨g1, 0, none⟩ : Addr).add 0))), (4, .pointer (some ((⟨g5, 0, none⟩ : Addr).add 0))), (5, vI x8.2), (7, .pointer (some ((⟨g11, 0, none⟩ : Addr).add 0))), (61, .bool s36)] ∧ Va ρ w 1 g1 24 ([vI a0.p, vI a0.n, vI a0.m, vI a0.k, va0]) ∧ O78 ρ w w0 4 u10 x8.1.ps ∧ Va ρ w 5 g5 28 ([vI x8.1.p, vI x8.1.n, vI x8.1.m, vI x8.1.k, u10]) ∧ O78 ρ w w0 10 u18 x16.1.ps ∧ Va ρ w 11 g11 28 ([vI x16.1.p, vI x16.1.n, vI x16.1.m, vI x16.1.k, u18])) s36 ?_ ?_
  · have hF := hT35
    refine c_region ?_
    refine s_ hf (r_move hf rfl) fun a hf => ?_
    refine s_ hf (r_lss hf rfl rfl) fun a hf => ?_
    refine s_ hf (r_move hf rfl) fun a hf => ?_
    rcases of_ite hF with ⟨hb37, hF⟩ | ⟨hb37, hF⟩
    · refine st_no (b := true) hf rfl rfl rfl hb37 rfl (by decide) fun a hf => ?_
      refine st_no (b := true) hf rfl rfl rfl hb37 rfl (by decide) fun a hf => ?_
      refine st_no (b := true) hf rfl rfl rfl hb37 rfl (by decide) fun a hf => ?_
      refine st_no (b := true) hf rfl rfl rfl hb37 rfl (by decide) fun a hf => ?_
      refine s_ hf (r_pick (b := true) hf rfl hb37 rfl) fun a hf => ?_
      refine s_ hf (r_move hf rfl) fun a hf => ?_
      refine st_no (b := true) hf rfl rfl rfl rfl rfl (by decide) fun a hf => ?_
      refine st_no (b := true) hf rfl rfl rfl rfl rfl (by decide) fun a hf => ?_
      refine st_no (b := true) hf rfl rfl rfl rfl rfl (by decide) fun a hf => ?_
      refine s_ hf (r_pick (b := true) hf rfl rfl rfl) fun a hf => ?_
      refine c_nil ⟨rfl, ?_⟩
      obtain rfl := Option.some.inj hF
      exact ⟨_, hw, hf.sub ⟨rfl, rfl, rfl, rfl, rfl, trivial⟩, o1, o4, o5, o10, o11⟩
    refine st_g (b := false) hf rfl rfl rfl hb37 rfl (by decide) (r_load_agg ty28 hf rfl o11.cl rfl) fun a hf => ?_
    refine st_g (b := false) hf rfl rfl rfl hb37 rfl (by decide) (r_load_agg ty28 hf rfl o5.cl rfl) fun a hf => ?_
    obtain ⟨x38, hx39, hF⟩ := of_bind hF
    refine st_gfn (b := false) 16 hw hf rfl rfl rfl hb37 rfl (by decide) (r_fn en17 hf rfl) (laws_eqScheme_ok (a0 := x16.1) (a1 := x8.1) o10.ro o4.ro hx39) fun a v w ρ hf hw hE hN hΦ => ?_
    obtain rfl := hΦ
    replace o1 := o1.ext hE
    replace o4 := o4.ext hE
    replace o5 := o5.ext hE
    replace o7 := o7.ext hE
    replace o8 := o8.ext hE
    replace o10 := o10.ext hE
    replace o11 := o11.ext hE
    replace o14 := o14.ext hE
    refine st_g (b := false) hf rfl rfl rfl hb37 rfl (by decide) (r_not hf rfl) fun a hf => ?_
    refine s_ hf (r_pick (b := false) hf rfl hb37 rfl) fun a hf => ?_
    refine s_ hf (r_move hf rfl) fun a hf => ?_
    rcases of_ite hF with ⟨hb40, hF⟩ | ⟨hb40, hF⟩
    · refine st_no (b := true) hf rfl rfl rfl hb40 rfl (by decide) fun a hf => ?_
      refine st_no (b := true) hf rfl rfl rfl hb40 rfl (by decide) fun a hf => ?_
      refine st_no (b := true) hf rfl rfl rfl hb40 rfl (by decide) fun a hf => ?_
      refine s_ hf (r_pick (b := true) hf rfl hb40 rfl) fun a hf => ?_
      refine c_nil ⟨rfl, ?_⟩
      obtain rfl := Option.some.inj hF
      exact ⟨_, hw, hf.sub ⟨rfl, rfl, rfl, rfl, rfl, trivial⟩, o1, o4, o5, o10, o11⟩
    refine st_g (b := false) hf rfl rfl rfl hb40 rfl (by decide) (r_move hf rfl) fun a hf => ?_
    refine st_g (b := false) hf rfl rfl rfl hb40 rfl (by decide) (r_move hf rfl) fun a hf => ?_
    refine st_g (b := false) hf rfl rfl rfl hb40 rfl (by decide) (r_neq hf rfl rfl) fun a hf => ?_
    refine s_ hf (r_pick (b := false) hf rfl hb40 rfl) fun a hf => ?_
    refine c_nil ⟨rfl, ?_⟩
    obtain rfl := Option.some.inj hF
    exact ⟨_, hw, hf.sub ⟨rfl, rfl, rfl, rfl, rfl, trivial⟩, o1, o4, o5, o10, o11⟩
  rintro a w ⟨ρ, hw, hf, o1, o4, o5, o10, o11⟩
  have hF := hG35
  refine n_then ?_
  rcases of_ite hF with ⟨hb41, hF⟩ | ⟨hb41, hF⟩
  · refine c_ift hf rfl hb41 <| c_seq <| c_region ?_
    refine s_ hf (r_assign hf rfl) fun a hf => ?_
    refine c_nt <| c_retc ?_
    obtain rfl := Option.some.inj hF
    refine r_then <| c_ret hf (res_tmp Try.results11 hf rfl) ?_
    exact ⟨_, rfl, hw.below, rfl⟩
  refine c_iff hf rfl hb41 <| c_skip <| n_then <| c_seq <| c_region ?_
  refine s_ hf (r_assign hf rfl) fun a hf => ?_
  refine c_nt <| c_seq <| c_region ?_
  refine s_ hf (r_load_agg ty28 hf rfl o11.cl rfl) fun a hf => ?_
  refine s_ hf (r_move hf rfl) fun a hf => ?_
  obtain ⟨x42, hx43, hF⟩ := of_bind hF
  refine st_mfn hf rfl rfl (by decide) (r_fn en18 hf rfl) (laws_markScheme_ok (a0 := x16.1) (by decide) hw o10 hx43) fun a v w ρ hf hw hA hΦ => ?_
  obtain ⟨rfl, o10⟩ := hΦ
  replace o1 := o1.adv hA (by decide)
  replace o4 := o4.adv hA (by decide)
  replace o5 := o5.adv hA (by decide)
  replace o11 := o11.adv hA (by decide)
  refine s_ hf (r_assign hf rfl) fun a hf => ?_
  refine c_nt <| c_seq <| c_region ?_
  refine s_ hf (r_assign hf rfl) fun a hf => ?_
  refine c_nt <| c_seq <| c_region ?_
  refine s_ hf (r_load_agg ty28 hf rfl o11.cl rfl) fun a hf => ?_
  refine s_ hf (r_move hf rfl) fun a hf => ?_
  obtain ⟨x44, hx45, hF⟩ := of_bind hF
  refine st_fn 17 hw hf rfl rfl (by decide) (r_fn en19 hf rfl) (laws_heldScheme_ok (a0 := (⟨x16.1.p, x16.1.n, x16.1.m, x16.1.k, x42.2⟩ : Sch)) o10.ro hx45) fun a v w ρ hf hw hE hN hΦ => ?_
  obtain rfl := hΦ
  replace o1 := o1.ext hE
  replace o4 := o4.ext hE
  replace o5 := o5.ext hE
  replace o10 := o10.ext hE
  replace o11 := o11.ext hE
  refine s_ hf (r_assign hf rfl) fun a hf => ?_
  refine c_nt <| c_seq <| c_seq <| c_region ?_
  refine s_ hf (r_move hf rfl) fun a hf => ?_
  refine s_ hf (r_lss hf rfl rfl) fun a hf => ?_
  refine c_nt ?_
  rcases of_ite hF with ⟨hb46, hF⟩ | ⟨hb46, hF⟩
  · refine c_ift hf rfl hb46 <| c_seq <| c_region ?_
    refine s_ hf (r_assign hf rfl) fun a hf => ?_
    refine c_nt <| c_retc ?_
    obtain rfl := Option.some.inj hF
    refine r_then <| c_ret hf (res_tmp Try.results11 hf rfl) ?_
    exact ⟨_, rfl, hw.below, rfl⟩
  refine c_iff hf rfl hb46 <| c_skip <| n_then <| c_seq <| c_seq <| c_region ?_
  refine s_ hf (r_move hf rfl) fun a hf => ?_
  refine s_ hf (r_move hf rfl) fun a hf => ?_
  refine s_ hf (r_neq hf rfl rfl) fun a hf => ?_
  refine c_nt ?_
  rcases of_ite hF with ⟨hb47, hF⟩ | ⟨hb47, hF⟩
  · refine c_ift hf rfl hb47 <| c_seq <| c_region ?_
    refine s_ hf (r_assign hf rfl) fun a hf => ?_
    refine c_nt <| c_retc ?_
    obtain rfl := Option.some.inj hF
    refine r_then <| c_ret hf (res_tmp Try.results11 hf rfl) ?_
    exact ⟨_, rfl, hw.below, rfl⟩
  refine c_iff hf rfl hb47 <| c_skip <| n_then <| c_seq <| c_region ?_
  refine s_ hf (r_load_agg ty24 hf rfl o1.cl rfl) fun a hf => ?_
  obtain ⟨x48, hx49, hF⟩ := of_bind hF
  refine st_fn 18 hw hf rfl rfl (by decide) (r_fn en15 hf rfl) (laws_toScheme_ok (a0 := a0) (h0.now hw) hx49) fun a v w ρ hf hw hE hN hΦ => ?_
  obtain ⟨u50, rfl, hr51⟩ := hΦ
  replace o1 := o1.ext hE
  replace o4 := o4.ext hE
  replace o5 := o5.ext hE
  replace o10 := o10.ext hE
  replace o11 := o11.ext hE
  have o18 := hN hr51
  obtain ⟨x52, hx53, hF⟩ := of_bind hF
  refine st_fn 19 hw hf rfl rfl (by decide) (r_fn en51 hf rfl) (impl_ReduceScheme_ok (a0 := x48) o18.ro hx53) fun a v w ρ hf hw hE hN hΦ => ?_
  obtain ⟨u54, rfl, hr55⟩ := hΦ
  replace o1 := o1.ext hE
  replace o4 := o4.ext hE
  replace o5 := o5.ext hE
  replace o10 := o10.ext hE
  replace o11 := o11.ext hE
  replace o18 := o18.ext hE
  have o19 := hN hr55
  refine s_ hf (r_move hf rfl) fun a hf => ?_
  refine s_ hf (r_extract hf rfl rfl) fun a hf => ?_
  refine s_ hf (r_extract hf rfl rfl) fun a hf => ?_
  have o21 : Ow (kf cProd) 78 ρ w w0.heap.size 21 (.slice none 0 0) [] := Ow.nil _ _ _ _ _ _
  refine sx_ hf (r_alloc (cs := [vI 0, vI 0, vI 0, vI 0, (.slice none 0 0)]) 20 ze28 rfl hw) fun a v w hf hΦ => ?_
  obtain ⟨g20, ρ, rfl, hw, hE, o20⟩ := hΦ
  replace o1 := o1.ext hE
  replace o4 := o4.ext hE
  replace o5 := o5.ext hE
  replace o10 := o10.ext hE
  replace o11 := o11.ext hE
  replace o18 := o18.ext hE
  replace o19 := o19.ext hE
  replace o21 := o21.ext hE
  refine sk_ hf (r_store_w (cs' := [vI x52.1.p, vI x52.1.n, vI x52.1.m, vI x52.1.k, u54]) hw o20 (by decide) ty28 rfl rfl (one_sch o19.ro.one) hf rfl rfl rfl) fun a w hf hΦ => ?_
  obtain ⟨hw, hA, o20⟩ := hΦ
  replace o1 := o1.adv hA (by decide)
  replace o4 := o4.adv hA (by decide)
  replace o5 := o5.adv hA (by decide)
  replace o10 := o10.adv hA (by decide)
  replace o11 := o11.adv hA (by decide)
  replace o18 := o18.adv hA (by decide)
  replace o19 := o19.adv hA (by decide)
  replace o21 := o21.adv hA (by decide)
  refine s_ hf (r_assign hf rfl) fun a hf => ?_
  refine c_nt <| c_seq <| c_seq ?_
  obtain ⟨s57, hT56, hG56⟩ := of_bind hF
  clear hF
  refine c_meet (fun (s57 : Bool) a w => ∃ ρ, Wd w0 ρ w ∧ Fr 96 a [(7, .pointer (some ((⟨g11, 0, none⟩ : Addr).add 0))), (10, vI x42.1), (87, .bool s57)] ∧ O78 ρ w w0 10 u18 x42.2 ∧ Va ρ w 11 g11 28 ([vI x16.1.p, vI x16.1.n, vI x16.1.m, vI x16.1.k, u18])) s57 ?_ ?_
  · have hF := hT56
    refine c_region ?_
    refine s_ hf (r_load_agg ty28 hf rfl o20.cl rfl) fun a hf => ?_
    refine s_ hf (r_load_agg ty28 hf rfl o5.cl rfl) fun a hf => ?_
    obtain ⟨x58, hx59, hF⟩ := of_bind hF
    refine st_fn 22 hw hf rfl rfl (by decide) (r_fn en17 hf rfl) (laws_eqScheme_ok (a0 := x52.1) (a1 := x8.1) o19.ro o4.ro hx59) fun a v w ρ hf hw hE hN hΦ => ?_
    obtain rfl := hΦ
    replace o1 := o1.ext hE
    replace o4 := o4.ext hE
    replace o5 := o5.ext hE
    replace o10 := o10.ext hE
    replace o11 := o11.ext hE
    replace o18 := o18.ext hE
    replace o19 := o19.ext hE
    replace o21 := o21.ext hE
    replace o20 := o20.ext hE
    refine s_ hf (r_not hf rfl) fun a hf => ?_
    refine s_ hf (r_move hf rfl) fun a hf => ?_
    rcases of_ite hF with ⟨hb60, hF⟩ | ⟨hb60, hF⟩
    · refine st_no (b := true) hf rfl rfl rfl hb60 rfl (by decide) fun a hf => ?_
      refine st_no (b := true) hf rfl rfl rfl hb60 rfl (by decide) fun a hf => ?_
      refine st_no (b := true) hf rfl rfl rfl hb60 rfl (by decide) fun a hf => ?_
      refine s_ hf (r_pick (b := true) hf rfl hb60 rfl) fun a hf => ?_
      refine c_nil ⟨rfl, ?_⟩
      obtain rfl := Option.some.inj hF
      exact ⟨_, hw, hf.sub ⟨rfl, rfl, rfl, trivial⟩, o10, o11⟩
    refine st_g (b := false) hf rfl rfl rfl hb60 rfl (by decide) (r_move hf rfl) fun a hf => ?_
    refine st_g (b := false) hf rfl rfl rfl hb60 rfl (by decide) (r_move hf rfl) fun a hf => ?_
    refine st_g (b := false) hf rfl rfl rfl hb60 rfl (by decide) (r_neq hf rfl rfl) fun a hf => ?_
    refine s_ hf (r_pick (b := false) hf rfl hb60 rfl) fun a hf => ?_
    refine c_nil ⟨rfl, ?_⟩
    obtain rfl := Option.some.inj hF
    exact ⟨_, hw, hf.sub ⟨rfl, rfl, rfl, trivial⟩, o10, o11⟩
  rintro a w ⟨ρ, hw, hf, o10, o11⟩
  have hF := hG56
  refine n_then ?_
  rcases of_ite hF with ⟨hb61, hF⟩ | ⟨hb61, hF⟩
  · refine c_ift hf rfl hb61 <| c_seq <| c_region ?_
    refine s_ hf (r_assign hf rfl) fun a hf => ?_
    refine c_nt <| c_retc ?_
    obtain rfl := Option.some.inj hF
    refine r_then <| c_ret hf (res_tmp Try.results11 hf rfl) ?_
    exact ⟨_, rfl, hw.below, rfl⟩
  refine c_iff hf rfl hb61 <| c_skip <| n_then <| c_seq <| c_region ?_
  refine s_ hf (r_assign hf rfl) fun a hf => ?_
  refine c_nt <| c_seq <| c_region ?_
  refine s_ hf (r_load_agg ty28 hf rfl o11.cl rfl) fun a hf => ?_
  refine s_ hf (r_move hf rfl) fun a hf => ?_
  obtain ⟨x62, hx63, hF⟩ := of_bind hF
  refine st_fn 23 hw hf rfl rfl (by decide) (r_fn en19 hf rfl) (laws_heldScheme_ok (a0 := (⟨x16.1.p, x16.1.n, x16.1.m, x16.1.k, x42.2⟩ : Sch)) o10.ro hx63) fun a v w ρ hf hw hE hN hΦ => ?_
  obtain rfl := hΦ
  replace o10 := o10.ext hE
  replace o11 := o11.ext hE
  refine s_ hf (r_assign hf rfl) fun a hf => ?_
  refine c_nt <| c_seq <| c_seq <| c_region ?_
  refine s_ hf (r_move hf rfl) fun a hf => ?_
  refine s_ hf (r_lss hf rfl rfl) fun a hf => ?_
  refine c_nt ?_
  rcases of_ite hF with ⟨hb64, hF⟩ | ⟨hb64, hF⟩
  · refine c_ift hf rfl hb64 <| c_seq <| c_region ?_
    refine s_ hf (r_assign hf rfl) fun a hf => ?_
    refine c_nt <| c_retc ?_
    obtain rfl := Option.some.inj hF
    refine r_then <| c_ret hf (res_tmp Try.results11 hf rfl) ?_
    exact ⟨_, rfl, hw.below, rfl⟩
  refine c_iff hf rfl hb64 <| c_skip <| n_then <| c_seq <| c_seq <| c_region ?_
  refine s_ hf (r_move hf rfl) fun a hf => ?_
  refine s_ hf (r_move hf rfl) fun a hf => ?_
  refine s_ hf (r_neq hf rfl rfl) fun a hf => ?_
  refine c_nt ?_
  rcases of_ite hF with ⟨hb65, hF⟩ | ⟨hb65, hF⟩
  · refine c_ift hf rfl hb65 <| c_seq <| c_region ?_
    refine s_ hf (r_assign hf rfl) fun a hf => ?_
    refine c_nt <| c_retc ?_
    obtain rfl := Option.some.inj hF
    refine r_then <| c_ret hf (res_tmp Try.results11 hf rfl) ?_
    exact ⟨_, rfl, hw.below, rfl⟩
  refine c_iff hf rfl hb65 <| c_skip <| n_then <| c_seq <| c_region ?_
  refine s_ hf (r_assign hf rfl) fun a hf => ?_
  refine c_nt <| c_retc ?_
  obtain rfl := Option.some.inj hF
  refine c_ret hf (res_tmp Try.results11 hf rfl) ?_
  exact ⟨_, rfl, hw.below, rfl⟩
end Go.Proofs.YtB
