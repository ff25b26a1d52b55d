/- Functions of the program as plain functions, and that they compute these. Printed by gen.py. -/
import Derived.Test.YtaaghemmkbgldaaRoG1
set_option linter.unusedVariables false
set_option linter.unusedSimpArgs false
set_option maxRecDepth 4000
set_option maxHeartbeats 1000000
namespace Go.Proofs.YtB
open Go Go.RowKit Go.Proofs Go.Proofs.YtaaghemmkbgldaaW.PrintWords
/-! f22 -/
noncomputable def spec_PlusMove (a0 : Sch) (a1 : Int) (a2 : Int) : Option (Sch × Int) :=
  (spec_l01Is a0).bind fun x1 => if (!x1) = true then (some (((⟨0, 0, 0, 0, ([] : List Prod)⟩ : Sch), 1))) else ((spec_l03Numbers a0 ([a1, a2])).bind fun x4 => if (!x4) = true then (some (((⟨0, 0, 0, 0, ([] : List Prod)⟩ : Sch), 2))) else (if (decide (a1 = a2)) = true then (some (((⟨0, 0, 0, 0, ([] : List Prod)⟩ : Sch), 5))) else (if (decide ((a0.ps.length : Int) = 30)) = true then (some (((⟨0, 0, 0, 0, ([] : List Prod)⟩ : Sch), 3))) else (if (([] : List Prod).length + a0.ps.length) * 27 ≤ 140737488355328 then (if 0 ≤ a1 ∧ a1 < ((([] : List Prod) ++ a0.ps).length : Int) then (if 0 ≤ a2 ∧ a2 < ((([] : List Prod) ++ a0.ps).length : Int) then ((spec_l01Add a0.p ((gl zProd (([] : List Prod) ++ a0.ps) a1).1) ((gl zProd (([] : List Prod) ++ a0.ps) a2).1) (-1)).bind fun x15 => (spec_l03With (gl zProd (([] : List Prod) ++ a0.ps) a1) 0 x15).bind fun x17 => (spec_l01Add a0.p ((gl zProd (([] : List Prod) ++ a0.ps) a1).2.2) ((gl zProd (([] : List Prod) ++ a0.ps) a2).2.2) 1).bind fun x20 => if 0 ≤ a2 ∧ a2 < (((([] : List Prod) ++ a0.ps).set a1.toNat x17).length : Int) then ((spec_l01Add a0.p ((gl zProd (([] : List Prod) ++ a0.ps) a2).2.1) ((gl zProd (([] : List Prod) ++ a0.ps) a1).2.1) (-1)).bind fun x24 => (spec_l03With (gl zProd (([] : List Prod) ++ a0.ps) a2) 1 x24).bind fun x26 => if ((((([] : List Prod) ++ a0.ps).set a1.toNat x17).set a2.toNat ((gl zProd (([] : List Prod) ++ a0.ps) a2).1, (gl zProd (([] : List Prod) ++ a0.ps) a1).2.1, x20)).length + ([x26]).length) * 27 ≤ 140737488355328 then ((spec_l03Told a0 ((((([] : List Prod) ++ a0.ps).set a1.toNat x17).set a2.toNat ((gl zProd (([] : List Prod) ++ a0.ps) a2).1, (gl zProd (([] : List Prod) ++ a0.ps) a1).2.1, x20)) ++ [x26])).bind fun x30 => some ((x30, 0))) else none) else none) else none) else none) else none))))
theorem spec_PlusMove_ok {w0 : World} {a0 : Sch} {a1 : Int} {a2 : Int} {va0 : Value} (h0 : Ro (kf cProd) w0 va0 a0.ps) {r : Sch × Int} (hF : spec_PlusMove a0 a1 a2 = some r) :
    Calls Try.prog 22 [.agg ([vI a0.p, vI a0.n, vI a0.m, vI a0.k, va0]).toArray, vI a1, vI a2].toArray w0 fun e w => ∃ v, e = .returned v ∧ Below w0.heap.size w0 w ∧ ∃ u0, .tuple #[.agg [.int .i64 r.1.p, .int .i64 r.1.n, .int .i64 r.1.m, .int .i64 r.1.k, u0].toArray, .int .i64 r.2] = v ∧ Fresh (kf cProd) 78 w0 w u0 r.1.ps := by
  refine calls_of (k := 89) Try.func22 rfl rfl (Nat.le_of_ble_eq_true rfl) fun a hf => ?_
  replace hf : Fr 89 a [(0, .agg ([vI a0.p, vI a0.n, vI a0.m, vI a0.k, va0]).toArray), (1, vI a1), (2, vI a2)] := hf
  refine c_start fun w ρ hw => ?_
  unfold spec_PlusMove at hF
  refine c_seq <| c_region ?_
  refine sx_ hf (r_box (cs := [vI a0.p, vI a0.n, vI a0.m, vI a0.k, va0]) 1 hw hf rfl rfl) fun a v w hf hΦ => ?_
  obtain ⟨g1, ρ, rfl, hw, hE, o1⟩ := hΦ
  have o3 : Ow (kf cProd) 78 ρ w w0.heap.size 3 (.slice none 0 0) [] := Ow.nil _ _ _ _ _ _
  refine sx_ hf (r_alloc (cs := [vI 0, vI 0, vI 0, vI 0, (.slice none 0 0)]) 2 ze28 rfl hw) fun a v w hf hΦ => ?_
  obtain ⟨g2, ρ, rfl, hw, hE, o2⟩ := hΦ
  replace o1 := o1.ext hE
  replace o3 := o3.ext hE
  refine s_ hf (r_assign hf rfl) fun a hf => ?_
  refine c_nt <| c_seq <| c_block <| c_seq <| c_region ?_
  refine s_ hf (r_load_agg ty28 hf rfl o1.cl rfl) fun a hf => ?_
  obtain ⟨x1, hx2, hF⟩ := of_bind hF
  refine st_fn 4 hw hf rfl rfl (by decide) (r_fn en69 hf rfl) (spec_l01Is_ok (a0 := a0) (h0.now hw) hx2) fun a v w ρ hf hw hE hN hΦ => ?_
  obtain rfl := hΦ
  replace o1 := o1.ext hE
  replace o3 := o3.ext hE
  replace o2 := o2.ext hE
  refine s_ hf (r_not hf rfl) fun a hf => ?_
  refine s_ hf (r_assign hf rfl) fun a hf => ?_
  refine c_nt ?_
  rcases of_ite hF with ⟨hb3, hF⟩ | ⟨hb3, hF⟩
  · refine c_ift hf rfl hb3 <| c_seq <| c_region ?_
    have o5 : Ow (kf cProd) 78 ρ w w0.heap.size 5 (.slice none 0 0) [] := Ow.nil _ _ _ _ _ _
    refine s_ hf (r_build_struct (pl := [(0, 1), (1, 1), (2, 1), (3, 1), (4, 1)]) (vs := []) (res := ([vI 0, vI 0, vI 0, vI 0, (.slice none 0 0)]).toArray) Try.underlying28 (by kernel_rfl) ze28 hf rfl rfl rfl) fun a hf => ?_
    refine sk_ hf (r_store_w (cs' := [vI 0, vI 0, vI 0, vI 0, (.slice none 0 0)]) hw o2 (by decide) ty28 rfl rfl (one_sch o5.ro.one) hf rfl rfl rfl) fun a w hf hΦ => ?_
    obtain ⟨hw, hA, o2⟩ := hΦ
    replace o1 := o1.adv hA (by decide)
    replace o3 := o3.adv hA (by decide)
    replace o5 := o5.adv hA (by decide)
    refine s_ hf (r_assign hf rfl) fun a hf => ?_
    refine c_nt <| c_retc ?_
    obtain rfl := Option.some.inj hF
    refine r_block <| r_then <| c_ret hf (res_ct Try.results22 ty28 hf rfl o2.cl rfl rfl) ?_
    exact ⟨_, rfl, hw.below, ⟨_, rfl, o5.out⟩⟩
  refine c_iff hf rfl hb3 <| c_seq <| c_region ?_
  refine s_ hf (r_load_agg ty28 hf rfl o1.cl rfl) fun a hf => ?_
  refine s_ hf (r_move hf rfl) fun a hf => ?_
  refine s_ hf (r_move hf rfl) fun a hf => ?_
  refine sx_ hf (r_lit (d := fI64) (xs := ([a1, a2] : List Int)) (vs := [vI a1, vI a2]) 6 Try.underlying61 el2 (Nat.le_of_ble_eq_true rfl) (Nat.le_of_ble_eq_true rfl) hw hf rfl rfl rfl) fun a v6 w hf hΦ => ?_
  obtain ⟨ρ, hw, hE, o6⟩ := hΦ
  replace o1 := o1.ext hE
  replace o3 := o3.ext hE
  replace o2 := o2.ext hE
  obtain ⟨x4, hx5, hF⟩ := of_bind hF
  refine st_fn 7 hw hf rfl rfl (by decide) (r_fn en70 hf rfl) (spec_l03Numbers_ok (a0 := a0) (h0.now hw) o6.ro hx5) fun a v w ρ hf hw hE hN hΦ => ?_
  obtain rfl := hΦ
  replace o1 := o1.ext hE
  replace o3 := o3.ext hE
  replace o2 := o2.ext hE
  replace o6 := o6.ext hE
  refine s_ hf (r_not hf rfl) fun a hf => ?_
  refine s_ hf (r_assign hf rfl) fun a hf => ?_
  refine c_nt ?_
  rcases of_ite hF with ⟨hb6, hF⟩ | ⟨hb6, hF⟩
  · refine c_ift hf rfl hb6 <| c_seq <| c_region ?_
    have o8 : Ow (kf cProd) 78 ρ w w0.heap.size 8 (.slice none 0 0) [] := Ow.nil _ _ _ _ _ _
    refine s_ hf (r_build_struct (pl := [(0, 1), (1, 1), (2, 1), (3, 1), (4, 1)]) (vs := []) (res := ([vI 0, vI 0, vI 0, vI 0, (.slice none 0 0)]).toArray) Try.underlying28 (by kernel_rfl) ze28 hf rfl rfl rfl) fun a hf => ?_
    refine sk_ hf (r_store_w (cs' := [vI 0, vI 0, vI 0, vI 0, (.slice none 0 0)]) hw o2 (by decide) ty28 rfl rfl (one_sch o8.ro.one) hf rfl rfl rfl) fun a w hf hΦ => ?_
    obtain ⟨hw, hA, o2⟩ := hΦ
    replace o1 := o1.adv hA (by decide)
    replace o3 := o3.adv hA (by decide)
    replace o6 := o6.adv hA (by decide)
    replace o8 := o8.adv hA (by decide)
    refine s_ hf (r_assign hf rfl) fun a hf => ?_
    refine c_nt <| c_retc ?_
    obtain rfl := Option.some.inj hF
    refine r_block <| r_then <| c_ret hf (res_ct Try.results22 ty28 hf rfl o2.cl rfl rfl) ?_
    exact ⟨_, rfl, hw.below, ⟨_, rfl, o8.out⟩⟩
  refine c_iff hf rfl hb6 <| c_seq <| c_region ?_
  refine s_ hf (r_move hf rfl) fun a hf => ?_
  refine s_ hf (r_move hf rfl) fun a hf => ?_
  refine s_ hf (r_eql hf rfl rfl) fun a hf => ?_
  refine s_ hf (r_assign hf rfl) fun a hf => ?_
  refine c_nt ?_
  rcases of_ite hF with ⟨hb7, hF⟩ | ⟨hb7, hF⟩
  · refine c_ift hf rfl hb7 <| c_seq <| c_region ?_
    have o9 : Ow (kf cProd) 78 ρ w w0.heap.size 9 (.slice none 0 0) [] := Ow.nil _ _ _ _ _ _
    refine s_ hf (r_build_struct (pl := [(0, 1), (1, 1), (2, 1), (3, 1), (4, 1)]) (vs := []) (res := ([vI 0, vI 0, vI 0, vI 0, (.slice none 0 0)]).toArray) Try.underlying28 (by kernel_rfl) ze28 hf rfl rfl rfl) fun a hf => ?_
    refine sk_ hf (r_store_w (cs' := [vI 0, vI 0, vI 0, vI 0, (.slice none 0 0)]) hw o2 (by decide) ty28 rfl rfl (one_sch o9.ro.one) hf rfl rfl rfl) fun a w hf hΦ => ?_
    obtain ⟨hw, hA, o2⟩ := hΦ
    replace o1 := o1.adv hA (by decide)
    replace o3 := o3.adv hA (by decide)
    replace o6 := o6.adv hA (by decide)
    replace o9 := o9.adv hA (by decide)
    refine s_ hf (r_assign hf rfl) fun a hf => ?_
    refine c_nt <| c_retc ?_
    obtain rfl := Option.some.inj hF
    refine r_block <| r_then <| c_ret hf (res_ct Try.results22 ty28 hf rfl o2.cl rfl rfl) ?_
    exact ⟨_, rfl, hw.below, ⟨_, rfl, o9.out⟩⟩
  refine c_iff hf rfl hb7 <| c_seq <| c_region ?_
  refine s_ hf (r_fa fa28_4 hf rfl) fun a hf => ?_
  refine s_ hf (r_load_cell ty26 hf rfl (o1.cl.at_ 4 _ rfl)) fun a hf => ?_
  refine s_ hf (r_len Try.underlying26 (h0.now hw) hf rfl) fun a hf => ?_
  refine s_ hf (r_eql hf rfl rfl) fun a hf => ?_
  refine s_ hf (r_assign hf rfl) fun a hf => ?_
  refine c_nt ?_
  rcases of_ite hF with ⟨hb8, hF⟩ | ⟨hb8, hF⟩
  · refine c_ift hf rfl hb8 <| c_seq <| c_region ?_
    have o10 : Ow (kf cProd) 78 ρ w w0.heap.size 10 (.slice none 0 0) [] := Ow.nil _ _ _ _ _ _
    refine s_ hf (r_build_struct (pl := [(0, 1), (1, 1), (2, 1), (3, 1), (4, 1)]) (vs := []) (res := ([vI 0, vI 0, vI 0, vI 0, (.slice none 0 0)]).toArray) Try.underlying28 (by kernel_rfl) ze28 hf rfl rfl rfl) fun a hf => ?_
    refine sk_ hf (r_store_w (cs' := [vI 0, vI 0, vI 0, vI 0, (.slice none 0 0)]) hw o2 (by decide) ty28 rfl rfl (one_sch o10.ro.one) hf rfl rfl rfl) fun a w hf hΦ => ?_
    obtain ⟨hw, hA, o2⟩ := hΦ
    replace o1 := o1.adv hA (by decide)
    replace o3 := o3.adv hA (by decide)
    replace o6 := o6.adv hA (by decide)
    replace o10 := o10.adv hA (by decide)
    refine s_ hf (r_assign hf rfl) fun a hf => ?_
    refine c_nt <| c_retc ?_
    obtain rfl := Option.some.inj hF
    refine r_block <| r_then <| c_ret hf (res_ct Try.results22 ty28 hf rfl o2.cl rfl rfl) ?_
    exact ⟨_, rfl, hw.below, ⟨_, rfl, o10.out⟩⟩
  refine c_iff hf rfl hb8 <| c_skip <| n_block <| n_then <| c_seq <| c_region ?_
  refine sx_ hf (r_lit (d := cProd) (xs := ([] : List Prod)) (vs := []) 11 Try.underlying26 el78 (Nat.le_of_ble_eq_true rfl) (Nat.le_of_ble_eq_true rfl) hw hf rfl rfl rfl) fun a v11 w hf hΦ => ?_
  obtain ⟨ρ, hw, hE, o11⟩ := hΦ
  replace o1 := o1.ext hE
  replace o3 := o3.ext hE
  replace o2 := o2.ext hE
  replace o6 := o6.ext hE
  refine s_ hf (r_fa fa28_4 hf rfl) fun a hf => ?_
  refine s_ hf (r_load_cell ty26 hf rfl (o1.cl.at_ 4 _ rfl)) fun a hf => ?_
  obtain ⟨hc9, hF⟩ := of_guard hF
  refine sx_ hf (r_append Try.underlying26 el78 hw (by decide) o11 (h0.now hw) hc9 hf rfl rfl) fun a va10 w hf hΦ => ?_
  obtain ⟨ρ, hw, hA, o11⟩ := hΦ
  replace o1 := o1.adv hA (by decide)
  replace o3 := o3.adv hA (by decide)
  replace o2 := o2.adv hA (by decide)
  replace o6 := o6.adv hA (by decide)
  refine s_ hf (r_assign hf rfl) fun a hf => ?_
  refine c_nt <| c_seq ?_
  obtain ⟨hc11, hF⟩ := of_guard hF
  obtain ⟨hc13, hF⟩ := of_guard hF
  replace hf : Fr 89 a [(1, vI a1), (2, vI a2), (3, .pointer (some ((⟨g1, 0, none⟩ : Addr).add 0))), (6, .pointer (some ((⟨g2, 0, none⟩ : Addr).add 0))), (8, va10)] := hf.sub ⟨rfl, rfl, rfl, rfl, rfl, trivial⟩
  refine c_stage 11 [10] mixed (by kernel_rfl) (by kernel_rfl) (fun c ρ w => Va ρ w 1 g1 28 ([vI a0.p, vI a0.n, vI a0.m, vI a0.k, va0]) ∧ Va ρ w 2 g2 28 ([vI 0, vI 0, vI 0, vI 0, (.slice none 0 0)]) ∧ O78 ρ w w0 3 (.slice none 0 0) ([] : List Prod) ∧ O78 ρ w w0 11 va10 (([] : List Prod) ++ a0.ps)) ?_ [fun c ρ w v => va10 = v, fun c ρ w v => vI a1 = v, fun c ρ w v => ∃ ad12, .pointer (some (ad12.add (a1.toNat * 27))) = v ∧ Ce ρ w 11 va10 ((([] : List Prod) ++ a0.ps).length) ad12 (a1.toNat * 27) (cProd.enc (gl zProd (([] : List Prod) ++ a0.ps) a1)), fun c ρ w v => .agg (cProd.enc (gl zProd (([] : List Prod) ++ a0.ps) a1)).toArray = v, fun c ρ w v => va10 = v, fun c ρ w v => vI a2 = v, fun c ρ w v => ∃ ad14, .pointer (some (ad14.add (a2.toNat * 27))) = v ∧ Ce ρ w 11 va10 ((([] : List Prod) ++ a0.ps).length) ad14 (a2.toNat * 27) (cProd.enc (gl zProd (([] : List Prod) ++ a0.ps) a2)), fun c ρ w v => .agg (cProd.enc (gl zProd (([] : List Prod) ++ a0.ps) a2)).toArray = v, fun c ρ w v => ∃ g14, .pointer (some ((⟨g14, 0, none⟩ : Addr).add 0)) = v ∧ (c ≤ 0 → Va ρ w 14 g14 78 (cProd.enc zProd)) ∧ (0 < c → Va ρ w 14 g14 78 (cProd.enc (gl zProd (([] : List Prod) ++ a0.ps) a1))), fun c ρ w v => ∃ g15, .pointer (some ((⟨g15, 0, none⟩ : Addr).add 0)) = v ∧ Va ρ w 15 g15 78 (cProd.enc zProd), fun _ _ _ _ => True] ?_ hw ⟨o1, o2, o3, o11⟩ hf ?_ ?_
  · intro c ρ w ρ' w' hE hG
    obtain ⟨o1, o2, o3, o11⟩ := hG
    exact ⟨o1.ext hE, o2.ext hE, o3.ext hE, o11.ext hE⟩
  · exact LastsS.cons (fun _ _ _ _ _ _ _ h => h) <| LastsS.cons (fun _ _ _ _ _ _ _ h => h) <| LastsS.cons (fun c _ _ _ _ _ hE h => by obtain ⟨ad12, h, hl12⟩ := h; exact ⟨_, h, hl12.ext hE⟩) <| LastsS.cons (fun _ _ _ _ _ _ _ h => h) <| LastsS.cons (fun _ _ _ _ _ _ _ h => h) <| LastsS.cons (fun _ _ _ _ _ _ _ h => h) <| LastsS.cons (fun c _ _ _ _ _ hE h => by obtain ⟨ad14, h, hl14⟩ := h; exact ⟨_, h, hl14.ext hE⟩) <| LastsS.cons (fun _ _ _ _ _ _ _ h => h) <| LastsS.cons (fun c _ _ _ _ _ hE h => by obtain ⟨g14, h, hx, hy⟩ := h; exact ⟨_, h, fun h => (hx h).ext hE, (fun h => by obtain o14 := hy h; exact o14.ext hE)⟩) <| LastsS.cons (fun c _ _ _ _ _ hE h => by obtain ⟨g15, h, o15⟩ := h; exact ⟨_, h, o15.ext hE⟩) <| LastsS.cons (fun _ _ _ _ _ _ _ h => h) <| LastsS.nil
  · refine StepsS.float rfl ?_ <| StepsS.float rfl ?_ <| StepsS.float rfl ?_ <| StepsS.float rfl ?_ <| StepsS.float rfl ?_ <| StepsS.float rfl ?_ <| StepsS.float rfl ?_ <| StepsS.float rfl ?_ <| StepsS.float rfl ?_ <| StepsS.float rfl ?_ <| StepsS.main 0 rfl rfl ?_ <| StepsS.nil
    · intro c ρ w a hs hw hG hf hd K hK
      obtain ⟨o1, o2, o3, o11⟩ := hG
      exact dv_ hK hw (wn rfl) (r_move hf rfl) rfl
    · intro c ρ w a hs hw hG hf hd K hK
      obtain ⟨o1, o2, o3, o11⟩ := hG
      exact dv_ hK hw (wn rfl) (r_move hf rfl) rfl
    · intro c ρ w a hs hw hG hf hd K hK
      obtain ⟨o1, o2, o3, o11⟩ := hG
      obtain ⟨_, ht0, rfl⟩ := hd 0 (by kernel_rfl) (by kernel_rfl)
      replace hf := hf.more ht0
      obtain ⟨_, ht1, rfl⟩ := hd 1 (by kernel_rfl) (by kernel_rfl)
      replace hf := hf.more ht1
      obtain ⟨ad12, hl12⟩ := Ow.ce (d := cProd) o11 zProd hc11.1 hc11.2
      exact dv_ hK hw (wn rfl) (r_idx Try.underlying26 sz78 hf rfl hl12.at_ rfl hc11.1 hc11.2) (ex_ <| an_ rfl <| hl12)
    · intro c ρ w a hs hw hG hf hd K hK
      obtain ⟨o1, o2, o3, o11⟩ := hG
      obtain ⟨_, ht2, ⟨ad12, rfl, hl12⟩⟩ := hd 2 (by kernel_rfl) (by kernel_rfl)
      replace hf := hf.more ht2
      exact dv_ hK hw (wn rfl) (r_load_agg ty78 hf rfl hl12.co.cl (cProd.len _)) rfl
    · intro c ρ w a hs hw hG hf hd K hK
      obtain ⟨o1, o2, o3, o11⟩ := hG
      exact dv_ hK hw (wn rfl) (r_move hf rfl) rfl
    · intro c ρ w a hs hw hG hf hd K hK
      obtain ⟨o1, o2, o3, o11⟩ := hG
      exact dv_ hK hw (wn rfl) (r_move hf rfl) rfl
    · intro c ρ w a hs hw hG hf hd K hK
      obtain ⟨o1, o2, o3, o11⟩ := hG
      obtain ⟨_, ht4, rfl⟩ := hd 4 (by kernel_rfl) (by kernel_rfl)
      replace hf := hf.more ht4
      obtain ⟨_, ht5, rfl⟩ := hd 5 (by kernel_rfl) (by kernel_rfl)
      replace hf := hf.more ht5
      obtain ⟨ad14, hl14⟩ := Ow.ce (d := cProd) o11 zProd hc13.1 hc13.2
      exact dv_ hK hw (wn rfl) (r_idx Try.underlying26 sz78 hf rfl hl14.at_ rfl hc13.1 hc13.2) (ex_ <| an_ rfl <| hl14)
    · intro c ρ w a hs hw hG hf hd K hK
      obtain ⟨o1, o2, o3, o11⟩ := hG
      obtain ⟨_, ht6, ⟨ad14, rfl, hl14⟩⟩ := hd 6 (by kernel_rfl) (by kernel_rfl)
      replace hf := hf.more ht6
      exact dv_ hK hw (wn rfl) (r_load_agg ty78 hf rfl hl14.co.cl (cProd.len _)) rfl
    · intro c ρ w a hs hw hG hf hd K hK
      obtain ⟨o1, o2, o3, o11⟩ := hG
      refine dx_ hK hw (wn rfl) (r_alloc (cs := cProd.enc zProd) 14 ze78 rfl hw) fun v w' hΦ => ?_
      obtain ⟨g14, ρ, rfl, hw, hE, o14⟩ := hΦ
      exact ⟨_, hw, hE, ex_ <| an_ rfl <| an_ (fun _ => o14) <| fun hc => absurd (hs 0 (by decide) (by kernel_rfl)) (Nat.not_le_of_lt hc)⟩
    · intro c ρ w a hs hw hG hf hd K hK
      obtain ⟨o1, o2, o3, o11⟩ := hG
      refine dx_ hK hw (wn rfl) (r_alloc (cs := cProd.enc zProd) 15 ze78 rfl hw) fun v w' hΦ => ?_
      obtain ⟨g15, ρ, rfl, hw, hE, o15⟩ := hΦ
      exact ⟨_, hw, hE, ex_ <| an_ rfl <| o15⟩
    · intro ρ w a S hw hG hf hS hdep hSi K hK
      obtain ⟨o1, o2, o3, o11⟩ := hG
      have hfL := hf
      obtain ⟨_, ht3, rfl⟩ := hS 3 (by decide) (hdep 3 (by kernel_rfl)) (by kernel_rfl)
      replace hf := hf.more ht3
      obtain ⟨_, ht8, g14, rfl, hx8, hy8⟩ := hS 8 (by decide) (hdep 8 (by kernel_rfl)) (by kernel_rfl)
      have o14 := hx8 (by decide)
      replace hf := hf.more ht8
      refine m_skip (Γ := fun c ρ w => Va ρ w 1 g1 28 ([vI a0.p, vI a0.n, vI a0.m, vI a0.k, va0]) ∧ Va ρ w 2 g2 28 ([vI 0, vI 0, vI 0, vI 0, (.slice none 0 0)]) ∧ O78 ρ w w0 3 (.slice none 0 0) ([] : List Prod) ∧ O78 ρ w w0 11 va10 (([] : List Prod) ++ a0.ps)) (Rl := [fun c ρ w v => va10 = v, fun c ρ w v => vI a1 = v, fun c ρ w v => ∃ ad12, .pointer (some (ad12.add (a1.toNat * 27))) = v ∧ Ce ρ w 11 va10 ((([] : List Prod) ++ a0.ps).length) ad12 (a1.toNat * 27) (cProd.enc (gl zProd (([] : List Prod) ++ a0.ps) a1)), fun c ρ w v => .agg (cProd.enc (gl zProd (([] : List Prod) ++ a0.ps) a1)).toArray = v, fun c ρ w v => va10 = v, fun c ρ w v => vI a2 = v, fun c ρ w v => ∃ ad14, .pointer (some (ad14.add (a2.toNat * 27))) = v ∧ Ce ρ w 11 va10 ((([] : List Prod) ++ a0.ps).length) ad14 (a2.toNat * 27) (cProd.enc (gl zProd (([] : List Prod) ++ a0.ps) a2)), fun c ρ w v => .agg (cProd.enc (gl zProd (([] : List Prod) ++ a0.ps) a2)).toArray = v, fun c ρ w v => ∃ g14, .pointer (some ((⟨g14, 0, none⟩ : Addr).add 0)) = v ∧ (c ≤ 0 → Va ρ w 14 g14 78 (cProd.enc zProd)) ∧ (0 < c → Va ρ w 14 g14 78 (cProd.enc (gl zProd (([] : List Prod) ++ a0.ps) a1))), fun c ρ w v => ∃ g15, .pointer (some ((⟨g15, 0, none⟩ : Addr).add 0)) = v ∧ Va ρ w 15 g15 78 (cProd.enc zProd), fun _ _ _ _ => True]) hfL hS (by kernel_rfl) rfl (wn rfl) (r_store_w (cs' := cProd.enc (gl zProd (([] : List Prod) ++ a0.ps) a1)) hw o14 (by decide) ty78 (cProd.len _) (cProd.len _) (cProd.one _) hf rfl rfl rfl) (fun w' hΦ => ?_) hK
      obtain ⟨hw, hA, o14⟩ := hΦ
      replace o1 := o1.adv hA (by decide)
      replace o2 := o2.adv hA (by decide)
      replace o3 := o3.adv hA (by decide)
      replace o11 := o11.adv hA (by decide)
      refine ⟨_, hw, ⟨o1, o2, o3, o11⟩, ?_⟩
      · exact PassL.cons (fun h => h) <| PassL.cons (fun h => h) <| PassL.cons (fun h => by obtain ⟨_, ht, ad12, h, hl12⟩ := h; exact ⟨_, ht, _, h, hl12.adv hA (by decide)⟩) <| PassL.cons (fun h => h) <| PassL.cons (fun h => h) <| PassL.cons (fun h => h) <| PassL.cons (fun h => by obtain ⟨_, ht, ad14, h, hl14⟩ := h; exact ⟨_, ht, _, h, hl14.adv hA (by decide)⟩) <| PassL.cons (fun h => h) <| PassL.cons (fun _ => ⟨_, ht8, _, rfl, fun h => absurd h (by decide), fun _ => o14⟩) <| PassL.cons (fun h => by obtain ⟨_, ht, g15, h, o15⟩ := h; exact ⟨_, ht, _, h, o15.adv hA (by decide)⟩) <| PassL.here <| PassL.nil
  intro ρ w a hw hG hf hd
  obtain ⟨o1, o2, o3, o11⟩ := hG
  obtain ⟨_, hf, rfl⟩ := got (hd 7 (by decide) (by kernel_rfl)) hf
  obtain ⟨_, ht, g14, rfl, hx, hy⟩ := hd 8 (by decide) (by kernel_rfl)
  obtain o14 := hy (by decide)
  replace hf := hf.more ht
  obtain ⟨_, hf, ⟨g15, rfl, o15⟩⟩ := got (hd 9 (by decide) (by kernel_rfl)) hf
  refine sk_ hf (r_store_w (cs' := cProd.enc (gl zProd (([] : List Prod) ++ a0.ps) a2)) hw o15 (by decide) ty78 (cProd.len _) (cProd.len _) (cProd.one _) hf rfl rfl rfl) fun a w hf hΦ => ?_
  obtain ⟨hw, hA, o15⟩ := hΦ
  replace o1 := o1.adv hA (by decide)
  replace o2 := o2.adv hA (by decide)
  replace o3 := o3.adv hA (by decide)
  replace o11 := o11.adv hA (by decide)
  replace o14 := o14.adv hA (by decide)
  refine c_nt <| c_seq ?_
  obtain ⟨x15, hx16, hF⟩ := of_bind hF
  obtain ⟨x17, hx18, hF⟩ := of_bind hF
  replace hf : Fr 89 a [(1, vI a1), (2, vI a2), (3, .pointer (some ((⟨g1, 0, none⟩ : Addr).add 0))), (6, .pointer (some ((⟨g2, 0, none⟩ : Addr).add 0))), (8, va10), (9, .pointer (some ((⟨g14, 0, none⟩ : Addr).add 0))), (10, .pointer (some ((⟨g15, 0, none⟩ : Addr).add 0)))] := hf.sub ⟨rfl, rfl, rfl, rfl, rfl, rfl, rfl, trivial⟩
  refine c_drawL (h := 11) mixed (by kernel_rfl) (by kernel_rfl) (fun ρ w => Va ρ w 1 g1 28 ([vI a0.p, vI a0.n, vI a0.m, vI a0.k, va0]) ∧ Va ρ w 2 g2 28 ([vI 0, vI 0, vI 0, vI 0, (.slice none 0 0)]) ∧ O78 ρ w w0 3 (.slice none 0 0) ([] : List Prod) ∧ O78 ρ w w0 11 va10 (([] : List Prod) ++ a0.ps) ∧ Va ρ w 14 g14 78 (cProd.enc (gl zProd (([] : List Prod) ++ a0.ps) a1)) ∧ Va ρ w 15 g15 78 (cProd.enc (gl zProd (([] : List Prod) ++ a0.ps) a2))) ?_ [fun ρ w v => va10 = v, fun ρ w v => vI a1 = v, fun ρ w v => .agg (cProd.enc (gl zProd (([] : List Prod) ++ a0.ps) a1)).toArray = v, fun ρ w v => .pointer (some ((⟨g1, 0, none⟩ : Addr).add (0 + 0))) = v, fun ρ w v => vI a0.p = v, fun ρ w v => .pointer (some ((⟨g14, 0, none⟩ : Addr).add (0 + 0))) = v, fun ρ w v => .agg (cForm.enc ((gl zProd (([] : List Prod) ++ a0.ps) a1).1)).toArray = v, fun ρ w v => .pointer (some ((⟨g15, 0, none⟩ : Addr).add (0 + 0))) = v, fun ρ w v => .agg (cForm.enc ((gl zProd (([] : List Prod) ++ a0.ps) a2).1)).toArray = v, fun ρ w v => .agg (cForm.enc x15).toArray = v, fun ρ w v => .agg (cProd.enc x17).toArray = v] ?_ hw ⟨o1, o2, o3, o11, o14, o15⟩ hf ?_ ?_
  · intro ρ w ρ' w' hE hG
    obtain ⟨o1, o2, o3, o11, o14, o15⟩ := hG
    exact ⟨o1.ext hE, o2.ext hE, o3.ext hE, o11.ext hE, o14.ext hE, o15.ext hE⟩
  · exact LastsL.cons (fun _ _ _ _ _ _ h => h) <| LastsL.cons (fun _ _ _ _ _ _ h => h) <| LastsL.cons (fun _ _ _ _ _ _ h => h) <| LastsL.cons (fun _ _ _ _ _ _ h => h) <| LastsL.cons (fun _ _ _ _ _ _ h => h) <| LastsL.cons (fun _ _ _ _ _ _ h => h) <| LastsL.cons (fun _ _ _ _ _ _ h => h) <| LastsL.cons (fun _ _ _ _ _ _ h => h) <| LastsL.cons (fun _ _ _ _ _ _ h => h) <| LastsL.cons (fun _ _ _ _ _ _ h => h) <| LastsL.cons (fun _ _ _ _ _ _ h => h) <| LastsL.nil
  · refine StepsB.cons ?_ <| StepsB.cons ?_ <| StepsB.cons ?_ <| StepsB.cons ?_ <| StepsB.cons ?_ <| StepsB.cons ?_ <| StepsB.cons ?_ <| StepsB.cons ?_ <| StepsB.cons ?_ <| StepsB.cons ?_ <| StepsB.cons ?_ <| StepsB.nil
    · intro ρ w a hw hG hf hd K hK
      obtain ⟨o1, o2, o3, o11, o14, o15⟩ := hG
      exact dv_ hK hw (wn rfl) (r_move hf rfl) rfl
    · intro ρ w a hw hG hf hd K hK
      obtain ⟨o1, o2, o3, o11, o14, o15⟩ := hG
      exact dv_ hK hw (wn rfl) (r_move hf rfl) rfl
    · intro ρ w a hw hG hf hd K hK
      obtain ⟨o1, o2, o3, o11, o14, o15⟩ := hG
      exact dv_ hK hw (wn rfl) (r_load_agg ty78 hf rfl o14.cl (cProd.len _)) rfl
    · intro ρ w a hw hG hf hd K hK
      obtain ⟨o1, o2, o3, o11, o14, o15⟩ := hG
      exact dv_ hK hw (wn rfl) (r_fa fa28_0 hf rfl) rfl
    · intro ρ w a hw hG hf hd K hK
      obtain ⟨o1, o2, o3, o11, o14, o15⟩ := hG
      obtain ⟨_, hf, rfl⟩ := got (hd 3 (by kernel_rfl)) hf
      exact dv_ hK hw (wn rfl) (r_load_cell ty2 hf rfl (o1.cl.at_ 0 _ rfl)) rfl
    · intro ρ w a hw hG hf hd K hK
      obtain ⟨o1, o2, o3, o11, o14, o15⟩ := hG
      exact dv_ hK hw (wn rfl) (r_fa fa78_0 hf rfl) rfl
    · intro ρ w a hw hG hf hd K hK
      obtain ⟨o1, o2, o3, o11, o14, o15⟩ := hG
      obtain ⟨_, hf, rfl⟩ := got (hd 5 (by kernel_rfl)) hf
      exact dv_ hK hw (wn rfl) (r_load_agg ty39 hf rfl (o14.cl.lens lProd_0) (cForm.len _)) rfl
    · intro ρ w a hw hG hf hd K hK
      obtain ⟨o1, o2, o3, o11, o14, o15⟩ := hG
      exact dv_ hK hw (wn rfl) (r_fa fa78_0 hf rfl) rfl
    · intro ρ w a hw hG hf hd K hK
      obtain ⟨o1, o2, o3, o11, o14, o15⟩ := hG
      obtain ⟨_, hf, rfl⟩ := got (hd 7 (by kernel_rfl)) hf
      exact dv_ hK hw (wn rfl) (r_load_agg ty39 hf rfl (o15.cl.lens lProd_0) (cForm.len _)) rfl
    · intro ρ w a hw hG hf hd K hK
      obtain ⟨o1, o2, o3, o11, o14, o15⟩ := hG
      obtain ⟨_, hf, rfl⟩ := got (hd 4 (by kernel_rfl)) hf
      obtain ⟨_, hf, rfl⟩ := got (hd 6 (by kernel_rfl)) hf
      obtain ⟨_, hf, rfl⟩ := got (hd 8 (by kernel_rfl)) hf
      refine dc_ hK hw (wn rfl) (r_fn en72 hf rfl) (spec_l01Add_ok  hx16) fun v w' hΦ => ?_
      obtain ⟨hb, hΦ⟩ := hΦ
      obtain rfl := hΦ
      have hE := Ext.new (ρ := ρ) 16 hb
      exact ⟨_, hw.new 16 hb, hE, rfl⟩
    · intro ρ w a hw hG hf hd K hK
      obtain ⟨o1, o2, o3, o11, o14, o15⟩ := hG
      obtain ⟨_, hf, rfl⟩ := got (hd 2 (by kernel_rfl)) hf
      obtain ⟨_, hf, rfl⟩ := got (hd 9 (by kernel_rfl)) hf
      refine dc_ hK hw (wn rfl) (r_fn en71 hf rfl) (spec_l03With_ok  hx18) fun v w' hΦ => ?_
      obtain ⟨hb, hΦ⟩ := hΦ
      obtain rfl := hΦ
      have hE := Ext.new (ρ := ρ) 17 hb
      exact ⟨_, hw.new 17 hb, hE, rfl⟩
  intro ρ w a hw hG hf hd
  obtain ⟨o1, o2, o3, o11, o14, o15⟩ := hG
  obtain ⟨_, hf, rfl⟩ := got (hd 0 (by decide)) hf
  obtain ⟨_, hf, rfl⟩ := got (hd 1 (by decide)) hf
  obtain ⟨_, hf, rfl⟩ := got (hd 10 (by decide)) hf
  obtain ⟨ad19, hl19⟩ := Ow.ce (d := cProd) o11 zProd hc11.1 hc11.2
  refine s_ hf (r_idx Try.underlying26 sz78 hf rfl hl19.at_ rfl hc11.1 hc11.2) fun a hf => ?_
  refine sk_ hf (r_store_ec (b := x17) zProd hw (by decide) o11 hc11.1 hc11.2 (Lens.id _) hl19.at_ ty78 (by first | rfl | exact Nat.add_assoc _ _ _ | (simp only [Nat.add_assoc]; rfl)) hf rfl rfl rfl) fun a w hf hΦ => ?_
  obtain ⟨hw, hA, o11⟩ := hΦ
  replace o1 := o1.adv hA (by decide)
  replace o2 := o2.adv hA (by decide)
  replace o3 := o3.adv hA (by decide)
  replace o14 := o14.adv hA (by decide)
  replace o15 := o15.adv hA (by decide)
  refine c_nt <| c_seq ?_
  obtain ⟨x20, hx21, hF⟩ := of_bind hF
  replace hf : Fr 89 a [(2, vI a2), (3, .pointer (some ((⟨g1, 0, none⟩ : Addr).add 0))), (6, .pointer (some ((⟨g2, 0, none⟩ : Addr).add 0))), (8, va10), (9, .pointer (some ((⟨g14, 0, none⟩ : Addr).add 0))), (10, .pointer (some ((⟨g15, 0, none⟩ : Addr).add 0)))] := hf.sub ⟨rfl, rfl, rfl, rfl, rfl, rfl, trivial⟩
  refine c_drawL (h := 14) mixed (by kernel_rfl) (by kernel_rfl) (fun ρ w => Va ρ w 1 g1 28 ([vI a0.p, vI a0.n, vI a0.m, vI a0.k, va0]) ∧ Va ρ w 2 g2 28 ([vI 0, vI 0, vI 0, vI 0, (.slice none 0 0)]) ∧ O78 ρ w w0 3 (.slice none 0 0) ([] : List Prod) ∧ O78 ρ w w0 11 va10 ((([] : List Prod) ++ a0.ps).set a1.toNat x17) ∧ Va ρ w 14 g14 78 (cProd.enc (gl zProd (([] : List Prod) ++ a0.ps) a1)) ∧ Va ρ w 15 g15 78 (cProd.enc (gl zProd (([] : List Prod) ++ a0.ps) a2))) ?_ [fun ρ w v => va10 = v, fun ρ w v => vI a2 = v, fun ρ w v => .pointer (some ((⟨g15, 0, none⟩ : Addr).add (0 + 0))) = v, fun ρ w v => .agg (cForm.enc ((gl zProd (([] : List Prod) ++ a0.ps) a2).1)).toArray = v, fun ρ w v => .pointer (some ((⟨g14, 0, none⟩ : Addr).add (0 + 9))) = v, fun ρ w v => .agg (cForm.enc ((gl zProd (([] : List Prod) ++ a0.ps) a1).2.1)).toArray = v, fun ρ w v => .pointer (some ((⟨g1, 0, none⟩ : Addr).add (0 + 0))) = v, fun ρ w v => vI a0.p = v, fun ρ w v => .pointer (some ((⟨g14, 0, none⟩ : Addr).add (0 + 18))) = v, fun ρ w v => .agg (cForm.enc ((gl zProd (([] : List Prod) ++ a0.ps) a1).2.2)).toArray = v, fun ρ w v => .pointer (some ((⟨g15, 0, none⟩ : Addr).add (0 + 18))) = v, fun ρ w v => .agg (cForm.enc ((gl zProd (([] : List Prod) ++ a0.ps) a2).2.2)).toArray = v, fun ρ w v => .agg (cForm.enc x20).toArray = v, fun ρ w v => .agg (cProd.enc ((gl zProd (([] : List Prod) ++ a0.ps) a2).1, (gl zProd (([] : List Prod) ++ a0.ps) a1).2.1, x20)).toArray = v] ?_ hw ⟨o1, o2, o3, o11, o14, o15⟩ hf ?_ ?_
  · intro ρ w ρ' w' hE hG
    obtain ⟨o1, o2, o3, o11, o14, o15⟩ := hG
    exact ⟨o1.ext hE, o2.ext hE, o3.ext hE, o11.ext hE, o14.ext hE, o15.ext hE⟩
  · exact LastsL.cons (fun _ _ _ _ _ _ h => h) <| LastsL.cons (fun _ _ _ _ _ _ h => h) <| LastsL.cons (fun _ _ _ _ _ _ h => h) <| LastsL.cons (fun _ _ _ _ _ _ h => h) <| LastsL.cons (fun _ _ _ _ _ _ h => h) <| LastsL.cons (fun _ _ _ _ _ _ h => h) <| LastsL.cons (fun _ _ _ _ _ _ h => h) <| LastsL.cons (fun _ _ _ _ _ _ h => h) <| LastsL.cons (fun _ _ _ _ _ _ h => h) <| LastsL.cons (fun _ _ _ _ _ _ h => h) <| LastsL.cons (fun _ _ _ _ _ _ h => h) <| LastsL.cons (fun _ _ _ _ _ _ h => h) <| LastsL.cons (fun _ _ _ _ _ _ h => h) <| LastsL.cons (fun _ _ _ _ _ _ h => h) <| LastsL.nil
  · refine StepsB.cons ?_ <| StepsB.cons ?_ <| StepsB.cons ?_ <| StepsB.cons ?_ <| StepsB.cons ?_ <| StepsB.cons ?_ <| StepsB.cons ?_ <| StepsB.cons ?_ <| StepsB.cons ?_ <| StepsB.cons ?_ <| StepsB.cons ?_ <| StepsB.cons ?_ <| StepsB.cons ?_ <| StepsB.cons ?_ <| StepsB.nil
    · intro ρ w a hw hG hf hd K hK
      obtain ⟨o1, o2, o3, o11, o14, o15⟩ := hG
      exact dv_ hK hw (wn rfl) (r_move hf rfl) rfl
    · intro ρ w a hw hG hf hd K hK
      obtain ⟨o1, o2, o3, o11, o14, o15⟩ := hG
      exact dv_ hK hw (wn rfl) (r_move hf rfl) rfl
    · intro ρ w a hw hG hf hd K hK
      obtain ⟨o1, o2, o3, o11, o14, o15⟩ := hG
      exact dv_ hK hw (wn rfl) (r_fa fa78_0 hf rfl) rfl
    · intro ρ w a hw hG hf hd K hK
      obtain ⟨o1, o2, o3, o11, o14, o15⟩ := hG
      obtain ⟨_, hf, rfl⟩ := got (hd 2 (by kernel_rfl)) hf
      exact dv_ hK hw (wn rfl) (r_load_agg ty39 hf rfl (o15.cl.lens lProd_0) (cForm.len _)) rfl
    · intro ρ w a hw hG hf hd K hK
      obtain ⟨o1, o2, o3, o11, o14, o15⟩ := hG
      exact dv_ hK hw (wn rfl) (r_fa fa78_1 hf rfl) rfl
    · intro ρ w a hw hG hf hd K hK
      obtain ⟨o1, o2, o3, o11, o14, o15⟩ := hG
      obtain ⟨_, hf, rfl⟩ := got (hd 4 (by kernel_rfl)) hf
      exact dv_ hK hw (wn rfl) (r_load_agg ty39 hf rfl (o14.cl.lens lProd_1) (cForm.len _)) rfl
    · intro ρ w a hw hG hf hd K hK
      obtain ⟨o1, o2, o3, o11, o14, o15⟩ := hG
      exact dv_ hK hw (wn rfl) (r_fa fa28_0 hf rfl) rfl
    · intro ρ w a hw hG hf hd K hK
      obtain ⟨o1, o2, o3, o11, o14, o15⟩ := hG
      obtain ⟨_, hf, rfl⟩ := got (hd 6 (by kernel_rfl)) hf
      exact dv_ hK hw (wn rfl) (r_load_cell ty2 hf rfl (o1.cl.at_ 0 _ rfl)) rfl
    · intro ρ w a hw hG hf hd K hK
      obtain ⟨o1, o2, o3, o11, o14, o15⟩ := hG
      exact dv_ hK hw (wn rfl) (r_fa fa78_2 hf rfl) rfl
    · intro ρ w a hw hG hf hd K hK
      obtain ⟨o1, o2, o3, o11, o14, o15⟩ := hG
      obtain ⟨_, hf, rfl⟩ := got (hd 8 (by kernel_rfl)) hf
      exact dv_ hK hw (wn rfl) (r_load_agg ty39 hf rfl (o14.cl.lens lProd_2) (cForm.len _)) rfl
    · intro ρ w a hw hG hf hd K hK
      obtain ⟨o1, o2, o3, o11, o14, o15⟩ := hG
      exact dv_ hK hw (wn rfl) (r_fa fa78_2 hf rfl) rfl
    · intro ρ w a hw hG hf hd K hK
      obtain ⟨o1, o2, o3, o11, o14, o15⟩ := hG
      obtain ⟨_, hf, rfl⟩ := got (hd 10 (by kernel_rfl)) hf
      exact dv_ hK hw (wn rfl) (r_load_agg ty39 hf rfl (o15.cl.lens lProd_2) (cForm.len _)) rfl
    · intro ρ w a hw hG hf hd K hK
      obtain ⟨o1, o2, o3, o11, o14, o15⟩ := hG
      obtain ⟨_, hf, rfl⟩ := got (hd 7 (by kernel_rfl)) hf
      obtain ⟨_, hf, rfl⟩ := got (hd 9 (by kernel_rfl)) hf
      obtain ⟨_, hf, rfl⟩ := got (hd 11 (by kernel_rfl)) hf
      refine dc_ hK hw (wn rfl) (r_fn en72 hf rfl) (spec_l01Add_ok  hx21) fun v w' hΦ => ?_
      obtain ⟨hb, hΦ⟩ := hΦ
      obtain rfl := hΦ
      have hE := Ext.new (ρ := ρ) 19 hb
      exact ⟨_, hw.new 19 hb, hE, rfl⟩
    · intro ρ w a hw hG hf hd K hK
      obtain ⟨o1, o2, o3, o11, o14, o15⟩ := hG
      obtain ⟨_, hf, rfl⟩ := got (hd 3 (by kernel_rfl)) hf
      obtain ⟨_, hf, rfl⟩ := got (hd 5 (by kernel_rfl)) hf
      obtain ⟨_, hf, rfl⟩ := got (hd 12 (by kernel_rfl)) hf
      exact dv_ hK hw (wn rfl) (r_build_struct (pl := [(0, 9), (9, 9), (18, 9)]) (vs := [(0, .agg (cForm.enc ((gl zProd (([] : List Prod) ++ a0.ps) a2).1)).toArray), (1, .agg (cForm.enc ((gl zProd (([] : List Prod) ++ a0.ps) a1).2.1)).toArray), (2, .agg (cForm.enc x20).toArray)]) (res := (cProd.enc ((gl zProd (([] : List Prod) ++ a0.ps) a2).1, (gl zProd (([] : List Prod) ++ a0.ps) a1).2.1, x20)).toArray) Try.underlying78 (by kernel_rfl) ze78 hf rfl rfl ((fill_lens (d := cProd) (z := zProd) lProd_0 rfl rfl).trans ((fill_lens (d := cProd) (z := ((gl zProd (([] : List Prod) ++ a0.ps) a2).1, zProd.2.1, zProd.2.2)) lProd_1 rfl rfl).trans ((fill_lens (d := cProd) (z := ((gl zProd (([] : List Prod) ++ a0.ps) a2).1, (gl zProd (([] : List Prod) ++ a0.ps) a1).2.1, zProd.2.2)) lProd_2 rfl rfl).trans rfl)))) rfl
  intro ρ w a hw hG hf hd
  obtain ⟨o1, o2, o3, o11, o14, o15⟩ := hG
  obtain ⟨_, hf, rfl⟩ := got (hd 0 (by decide)) hf
  obtain ⟨_, hf, rfl⟩ := got (hd 1 (by decide)) hf
  obtain ⟨_, hf, rfl⟩ := got (hd 13 (by decide)) hf
  obtain ⟨hc22, hF⟩ := of_guard hF
  obtain ⟨ad23, hl23⟩ := Ow.ce (d := cProd) o11 zProd hc22.1 hc22.2
  refine s_ hf (r_idx Try.underlying26 sz78 hf rfl hl23.at_ rfl hc22.1 hc22.2) fun a hf => ?_
  refine sk_ hf (r_store_ec (b := ((gl zProd (([] : List Prod) ++ a0.ps) a2).1, (gl zProd (([] : List Prod) ++ a0.ps) a1).2.1, x20)) zProd hw (by decide) o11 hc22.1 hc22.2 (Lens.id _) hl23.at_ ty78 (by first | rfl | exact Nat.add_assoc _ _ _ | (simp only [Nat.add_assoc]; rfl)) hf rfl rfl rfl) fun a w hf hΦ => ?_
  obtain ⟨hw, hA, o11⟩ := hΦ
  replace o1 := o1.adv hA (by decide)
  replace o2 := o2.adv hA (by decide)
  replace o3 := o3.adv hA (by decide)
  replace o14 := o14.adv hA (by decide)
  replace o15 := o15.adv hA (by decide)
  refine c_nt <| c_seq ?_
  obtain ⟨x24, hx25, hF⟩ := of_bind hF
  obtain ⟨x26, hx27, hF⟩ := of_bind hF
  replace hf : Fr 89 a [(3, .pointer (some ((⟨g1, 0, none⟩ : Addr).add 0))), (6, .pointer (some ((⟨g2, 0, none⟩ : Addr).add 0))), (8, va10), (9, .pointer (some ((⟨g14, 0, none⟩ : Addr).add 0))), (10, .pointer (some ((⟨g15, 0, none⟩ : Addr).add 0)))] := hf.sub ⟨rfl, rfl, rfl, rfl, rfl, trivial⟩
  refine c_drawL (h := 11) mixed (by kernel_rfl) (by kernel_rfl) (fun ρ w => Va ρ w 1 g1 28 ([vI a0.p, vI a0.n, vI a0.m, vI a0.k, va0]) ∧ Va ρ w 2 g2 28 ([vI 0, vI 0, vI 0, vI 0, (.slice none 0 0)]) ∧ O78 ρ w w0 3 (.slice none 0 0) ([] : List Prod) ∧ O78 ρ w w0 11 va10 (((([] : List Prod) ++ a0.ps).set a1.toNat x17).set a2.toNat ((gl zProd (([] : List Prod) ++ a0.ps) a2).1, (gl zProd (([] : List Prod) ++ a0.ps) a1).2.1, x20)) ∧ Va ρ w 14 g14 78 (cProd.enc (gl zProd (([] : List Prod) ++ a0.ps) a1)) ∧ Va ρ w 15 g15 78 (cProd.enc (gl zProd (([] : List Prod) ++ a0.ps) a2))) ?_ [fun ρ w v => va10 = v, fun ρ w v => .agg (cProd.enc (gl zProd (([] : List Prod) ++ a0.ps) a2)).toArray = v, fun ρ w v => .pointer (some ((⟨g1, 0, none⟩ : Addr).add (0 + 0))) = v, fun ρ w v => vI a0.p = v, fun ρ w v => .pointer (some ((⟨g15, 0, none⟩ : Addr).add (0 + 9))) = v, fun ρ w v => .agg (cForm.enc ((gl zProd (([] : List Prod) ++ a0.ps) a2).2.1)).toArray = v, fun ρ w v => .pointer (some ((⟨g14, 0, none⟩ : Addr).add (0 + 9))) = v, fun ρ w v => .agg (cForm.enc ((gl zProd (([] : List Prod) ++ a0.ps) a1).2.1)).toArray = v, fun ρ w v => .agg (cForm.enc x24).toArray = v, fun ρ w v => .agg (cProd.enc x26).toArray = v, fun ρ w v => ∃ v23, v23 = v ∧ O78 ρ w w0 23 v23 ([x26])] ?_ hw ⟨o1, o2, o3, o11, o14, o15⟩ hf ?_ ?_
  · intro ρ w ρ' w' hE hG
    obtain ⟨o1, o2, o3, o11, o14, o15⟩ := hG
    exact ⟨o1.ext hE, o2.ext hE, o3.ext hE, o11.ext hE, o14.ext hE, o15.ext hE⟩
  · exact LastsL.cons (fun _ _ _ _ _ _ h => h) <| LastsL.cons (fun _ _ _ _ _ _ h => h) <| LastsL.cons (fun _ _ _ _ _ _ h => h) <| LastsL.cons (fun _ _ _ _ _ _ h => h) <| LastsL.cons (fun _ _ _ _ _ _ h => h) <| LastsL.cons (fun _ _ _ _ _ _ h => h) <| LastsL.cons (fun _ _ _ _ _ _ h => h) <| LastsL.cons (fun _ _ _ _ _ _ h => h) <| LastsL.cons (fun _ _ _ _ _ _ h => h) <| LastsL.cons (fun _ _ _ _ _ _ h => h) <| LastsL.cons (fun _ _ _ _ _ hE h => by obtain ⟨v23, h, o23⟩ := h; exact ⟨_, h, o23.ext hE⟩) <| LastsL.nil
  · refine StepsB.cons ?_ <| StepsB.cons ?_ <| StepsB.cons ?_ <| StepsB.cons ?_ <| StepsB.cons ?_ <| StepsB.cons ?_ <| StepsB.cons ?_ <| StepsB.cons ?_ <| StepsB.cons ?_ <| StepsB.cons ?_ <| StepsB.cons ?_ <| StepsB.nil
    · intro ρ w a hw hG hf hd K hK
      obtain ⟨o1, o2, o3, o11, o14, o15⟩ := hG
      exact dv_ hK hw (wn rfl) (r_move hf rfl) rfl
    · intro ρ w a hw hG hf hd K hK
      obtain ⟨o1, o2, o3, o11, o14, o15⟩ := hG
      exact dv_ hK hw (wn rfl) (r_load_agg ty78 hf rfl o15.cl (cProd.len _)) rfl
    · intro ρ w a hw hG hf hd K hK
      obtain ⟨o1, o2, o3, o11, o14, o15⟩ := hG
      exact dv_ hK hw (wn rfl) (r_fa fa28_0 hf rfl) rfl
    · intro ρ w a hw hG hf hd K hK
      obtain ⟨o1, o2, o3, o11, o14, o15⟩ := hG
      obtain ⟨_, hf, rfl⟩ := got (hd 2 (by kernel_rfl)) hf
      exact dv_ hK hw (wn rfl) (r_load_cell ty2 hf rfl (o1.cl.at_ 0 _ rfl)) rfl
    · intro ρ w a hw hG hf hd K hK
      obtain ⟨o1, o2, o3, o11, o14, o15⟩ := hG
      exact dv_ hK hw (wn rfl) (r_fa fa78_1 hf rfl) rfl
    · intro ρ w a hw hG hf hd K hK
      obtain ⟨o1, o2, o3, o11, o14, o15⟩ := hG
      obtain ⟨_, hf, rfl⟩ := got (hd 4 (by kernel_rfl)) hf
      exact dv_ hK hw (wn rfl) (r_load_agg ty39 hf rfl (o15.cl.lens lProd_1) (cForm.len _)) rfl
    · intro ρ w a hw hG hf hd K hK
      obtain ⟨o1, o2, o3, o11, o14, o15⟩ := hG
      exact dv_ hK hw (wn rfl) (r_fa fa78_1 hf rfl) rfl
    · intro ρ w a hw hG hf hd K hK
      obtain ⟨o1, o2, o3, o11, o14, o15⟩ := hG
      obtain ⟨_, hf, rfl⟩ := got (hd 6 (by kernel_rfl)) hf
      exact dv_ hK hw (wn rfl) (r_load_agg ty39 hf rfl (o14.cl.lens lProd_1) (cForm.len _)) rfl
    · intro ρ w a hw hG hf hd K hK
      obtain ⟨o1, o2, o3, o11, o14, o15⟩ := hG
      obtain ⟨_, hf, rfl⟩ := got (hd 3 (by kernel_rfl)) hf
      obtain ⟨_, hf, rfl⟩ := got (hd 5 (by kernel_rfl)) hf
      obtain ⟨_, hf, rfl⟩ := got (hd 7 (by kernel_rfl)) hf
      refine dc_ hK hw (wn rfl) (r_fn en72 hf rfl) (spec_l01Add_ok  hx25) fun v w' hΦ => ?_
      obtain ⟨hb, hΦ⟩ := hΦ
      obtain rfl := hΦ
      have hE := Ext.new (ρ := ρ) 21 hb
      exact ⟨_, hw.new 21 hb, hE, rfl⟩
    · intro ρ w a hw hG hf hd K hK
      obtain ⟨o1, o2, o3, o11, o14, o15⟩ := hG
      obtain ⟨_, hf, rfl⟩ := got (hd 1 (by kernel_rfl)) hf
      obtain ⟨_, hf, rfl⟩ := got (hd 8 (by kernel_rfl)) hf
      refine dc_ hK hw (wn rfl) (r_fn en71 hf rfl) (spec_l03With_ok  hx27) fun v w' hΦ => ?_
      obtain ⟨hb, hΦ⟩ := hΦ
      obtain rfl := hΦ
      have hE := Ext.new (ρ := ρ) 22 hb
      exact ⟨_, hw.new 22 hb, hE, rfl⟩
    · intro ρ w a hw hG hf hd K hK
      obtain ⟨o1, o2, o3, o11, o14, o15⟩ := hG
      obtain ⟨_, hf, rfl⟩ := got (hd 9 (by kernel_rfl)) hf
      refine dx_ hK hw (wn rfl) (r_lit (d := cProd) (xs := ([x26] : List Prod)) (vs := [.agg (cProd.enc x26).toArray]) 23 Try.underlying26 el78 (Nat.le_of_ble_eq_true rfl) (Nat.le_of_ble_eq_true rfl) hw hf rfl rfl rfl) fun v23 w' hΦ => ?_
      obtain ⟨ρ, hw, hE, o23⟩ := hΦ
      exact ⟨_, hw, hE, ex_ <| an_ rfl <| o23⟩
  intro ρ w a hw hG hf hd
  obtain ⟨o1, o2, o3, o11, o14, o15⟩ := hG
  obtain ⟨_, hf, rfl⟩ := got (hd 0 (by decide)) hf
  obtain ⟨_, hf, ⟨v23, rfl, o23⟩⟩ := got (hd 10 (by decide)) hf
  obtain ⟨hc28, hF⟩ := of_guard hF
  refine sx_ hf (r_append Try.underlying26 el78 hw (by decide) o11 o23.ro hc28 hf rfl rfl) fun a va29 w hf hΦ => ?_
  obtain ⟨ρ, hw, hA, o11⟩ := hΦ
  replace o1 := o1.adv hA (by decide)
  replace o2 := o2.adv hA (by decide)
  replace o3 := o3.adv hA (by decide)
  replace o14 := o14.adv hA (by decide)
  replace o15 := o15.adv hA (by decide)
  replace o23 := o23.adv hA (by decide)
  refine s_ hf (r_assign hf rfl) fun a hf => ?_
  refine c_nt <| c_seq <| c_region ?_
  refine s_ hf (r_load_agg ty28 hf rfl o1.cl rfl) fun a hf => ?_
  refine s_ hf (r_move hf rfl) fun a hf => ?_
  obtain ⟨x30, hx31, hF⟩ := of_bind hF
  refine st_fn 24 hw hf rfl rfl (by decide) (r_fn en73 hf rfl) (spec_l03Told_ok (a0 := a0) (h0.now hw) o11.ro hx31) fun a v w ρ hf hw hE hN hΦ => ?_
  obtain ⟨u32, rfl, hr33⟩ := hΦ
  replace o1 := o1.ext hE
  replace o2 := o2.ext hE
  replace o3 := o3.ext hE
  replace o11 := o11.ext hE
  replace o14 := o14.ext hE
  replace o15 := o15.ext hE
  replace o23 := o23.ext hE
  have o24 := hN hr33
  refine sk_ hf (r_store_w (cs' := [vI x30.p, vI x30.n, vI x30.m, vI x30.k, u32]) hw o2 (by decide) ty28 rfl rfl (one_sch o24.ro.one) hf rfl rfl rfl) fun a w hf hΦ => ?_
  obtain ⟨hw, hA, o2⟩ := hΦ
  replace o1 := o1.adv hA (by decide)
  replace o3 := o3.adv hA (by decide)
  replace o11 := o11.adv hA (by decide)
  replace o14 := o14.adv hA (by decide)
  replace o15 := o15.adv hA (by decide)
  replace o23 := o23.adv hA (by decide)
  replace o24 := o24.adv hA (by decide)
  refine s_ hf (r_assign hf rfl) fun a hf => ?_
  refine c_nt <| c_retc ?_
  obtain rfl := Option.some.inj hF
  refine c_ret hf (res_ct Try.results22 ty28 hf rfl o2.cl rfl rfl) ?_
  exact ⟨_, rfl, hw.below, ⟨_, rfl, o24.out⟩⟩
/-! f76 -/
noncomputable def slices_Clone_76 (a0 : List Prod) : Option (List Prod) :=
  if (([] : List Prod).length + a0.length) * 27 ≤ 140737488355328 then (some ((([] : List Prod) ++ a0))) else none
theorem slices_Clone_76_ok {w0 : World} {a0 : List Prod} {va0 : Value} (h0 : Ro (kf cProd) w0 va0 a0) {r : List Prod} (hF : slices_Clone_76 a0 = some r) :
    Calls Try.prog 76 [va0].toArray w0 fun e w => ∃ v, e = .returned v ∧ Below w0.heap.size w0 w ∧ ∃ u0, u0 = v ∧ Fresh (kf cProd) 78 w0 w u0 r := by
  refine calls_of (k := 8) Try.func76 rfl rfl (Nat.le_of_ble_eq_true rfl) fun a hf => ?_
  replace hf : Fr 8 a [(0, va0)] := hf
  refine c_start fun w ρ hw => ?_
  unfold slices_Clone_76 at hF
  refine c_seq <| c_region ?_
  have o1 : Ow (kf cProd) 78 ρ w w0.heap.size 1 (.slice none 0 0) [] := Ow.nil _ _ _ _ _ _
  refine s_ hf (r_assign hf rfl) fun a hf => ?_
  refine c_nt <| c_seq <| c_seq <| c_region ?_
  refine s_ hf (r_move hf rfl) fun a hf => ?_
  rcases Ro.nil_or (h0.now hw) with hn1 | hn1
  · replace hF := (show (some (([] : List Prod))) = (if (([] : List Prod).length + a0.length) * 27 ≤ 140737488355328 then (some ((([] : List Prod) ++ a0))) else none) from by simp [hn1.2]).trans hF
    refine s_ hf (r_isnil hf rfl hn1.1 rfl Try.underlying26) fun a hf => ?_
    refine c_nt <| c_true hf rfl <| c_seq <| c_region ?_
    have o2 : Ow (kf cProd) 78 ρ w w0.heap.size 2 (.slice none 0 0) [] := Ow.nil _ _ _ _ _ _
    refine s_ hf (r_assign hf rfl) fun a hf => ?_
    refine c_nt <| c_retc ?_
    obtain rfl := Option.some.inj hF
    refine r_then <| c_ret hf (res_tmp Try.results76 hf rfl) ?_
    exact ⟨_, rfl, hw.below, ⟨_, rfl, o2.out⟩⟩
  · refine s_ hf (r_nonil hf rfl hn1 rfl Try.underlying26) fun a hf => ?_
    refine c_nt <| c_false hf rfl <| c_skip <| n_then <| c_seq <| c_region ?_
    refine sx_ hf (r_lit (d := cProd) (xs := ([] : List Prod)) (vs := []) 3 Try.underlying26 el78 (Nat.le_of_ble_eq_true rfl) (Nat.le_of_ble_eq_true rfl) hw hf rfl rfl rfl) fun a v3 w hf hΦ => ?_
    obtain ⟨ρ, hw, hE, o3⟩ := hΦ
    replace o1 := o1.ext hE
    refine s_ hf (r_move hf rfl) fun a hf => ?_
    obtain ⟨hc2, hF⟩ := of_guard hF
    refine sx_ hf (r_append Try.underlying26 el78 hw (by decide) o3 (h0.now hw) hc2 hf rfl rfl) fun a va3 w hf hΦ => ?_
    obtain ⟨ρ, hw, hA, o3⟩ := hΦ
    replace o1 := o1.adv hA (by decide)
    refine s_ hf (r_assign hf rfl) fun a hf => ?_
    refine c_nt <| c_retc ?_
    obtain rfl := Option.some.inj hF
    refine c_ret hf (res_tmp Try.results76 hf rfl) ?_
    exact ⟨_, rfl, hw.below, ⟨_, rfl, o3.out⟩⟩
/-! f78 -/
noncomputable def impl_with (a0 : Sch) (a1 : List Prod) : Option Sch :=
  some ((⟨a0.p, a0.n, a0.m, a0.k, a1⟩ : Sch))
theorem impl_with_ok {w0 ws : World} {ρ0 : Nat → Nat} {i : Nat} (hi : i ≠ 0) (hW : Wd w0 ρ0 ws) {a0 : Sch} {a1 : List Prod} {va0 : Value} {va1 : Value} (h0 : Ro (kf cProd) w0 va0 a0.ps) (h1 : Ow (kf cProd) 78 ρ0 ws w0.heap.size i va1 a1) {r : Sch} (hF : impl_with a0 a1 = some r) :
    Calls Try.prog 78 [.agg ([vI a0.p, vI a0.n, vI a0.m, vI a0.k, va0]).toArray, va1].toArray ws fun e w => ∃ v, e = .returned v ∧ ∃ ρ', Wd w0 ρ' w ∧ Adv i ρ0 ws ρ' w ∧ ∃ u0, .agg [.int .i64 r.p, .int .i64 r.n, .int .i64 r.m, .int .i64 r.k, u0].toArray = v ∧ Ow (kf cProd) 78 ρ' w w0.heap.size i u0 r.ps := by
  refine calls_of (k := 8) Try.func78 rfl rfl (Nat.le_of_ble_eq_true rfl) fun a hf => ?_
  replace hf : Fr 8 a [(0, .agg ([vI a0.p, vI a0.n, vI a0.m, vI a0.k, va0]).toArray), (1, va1)] := hf
  refine c_startm hi hW h1 fun w ρ hw oA o1 => ?_
  unfold impl_with at hF
  refine c_seq <| c_region ?_
  refine sx_ hf (r_box (cs := [vI a0.p, vI a0.n, vI a0.m, vI a0.k, va0]) 2 hw hf rfl rfl) fun a v w hf hΦ => ?_
  obtain ⟨g2, ρ, rfl, hw, hE, o2⟩ := hΦ
  replace oA := oA.ext hE
  replace o1 := o1.ext hE
  have o4 : Ow (kf cProd) 78 ρ w w0.heap.size 4 (.slice none 0 0) [] := Ow.nil _ _ _ _ _ _
  refine sx_ hf (r_alloc (cs := [vI 0, vI 0, vI 0, vI 0, (.slice none 0 0)]) 3 ze28 rfl hw) fun a v w hf hΦ => ?_
  obtain ⟨g3, ρ, rfl, hw, hE, o3⟩ := hΦ
  replace oA := oA.ext hE
  replace o1 := o1.ext hE
  replace o2 := o2.ext hE
  replace o4 := o4.ext hE
  refine c_nt <| c_seq <| c_region ?_
  refine s_ hf (r_move hf rfl) fun a hf => ?_
  refine s_ hf (r_fa fa28_4 hf rfl) fun a hf => ?_
  refine sk_ hf (r_store_c hw o2 (by decide) ty26 (Nat.le_of_ble_eq_true rfl) hf rfl rfl o1.ro.cells1 o1.ro.one) fun a w hf hΦ => ?_
  obtain ⟨hw, hA, o2⟩ := hΦ
  replace oA := oA.adv hA (by decide)
  replace o1 := o1.adv hA (by decide)
  replace o4 := o4.adv hA (by decide)
  replace o3 := o3.adv hA (by decide)
  replace o2 : Va ρ w 2 g2 28 ([vI a0.p, vI a0.n, vI a0.m, vI a0.k, va1]) := o2
  refine c_nt <| c_seq <| c_region ?_
  refine s_ hf (r_load_agg ty28 hf rfl o2.cl rfl) fun a hf => ?_
  refine sk_ hf (r_store_w (cs' := [vI a0.p, vI a0.n, vI a0.m, vI a0.k, va1]) hw o3 (by decide) ty28 rfl rfl (one_sch o1.ro.one) hf rfl rfl rfl) fun a w hf hΦ => ?_
  obtain ⟨hw, hA, o3⟩ := hΦ
  replace oA := oA.adv hA (by decide)
  replace o1 := o1.adv hA (by decide)
  replace o2 := o2.adv hA (by decide)
  replace o4 := o4.adv hA (by decide)
  refine c_nt <| c_retc ?_
  obtain rfl := Option.some.inj hF
  refine c_ret hf (res_cell Try.results78 ty28 hf rfl o3.cl rfl) ?_
  exact ⟨_, rfl, _, m_wd hW hw oA, m_adv oA, _, rfl, m_ow oA o1⟩
/-! f23 -/
noncomputable def impl_PlusMove (a0 : Sch) (a1 : Int) (a2 : Int) : Option (Sch × Int) :=
  (impl_IsScheme a0).bind fun x1 => if (!x1) = true then (some (((⟨0, 0, 0, 0, ([] : List Prod)⟩ : Sch), 1))) else ((impl_isIndex a0 ([a1, a2])).bind fun x4 => if (!x4) = true then (some (((⟨0, 0, 0, 0, ([] : List Prod)⟩ : Sch), 2))) else (if (decide (a1 = a2)) = true then (some (((⟨0, 0, 0, 0, ([] : List Prod)⟩ : Sch), 5))) else (if (decide ((a0.ps.length : Int) = 30)) = true then (some (((⟨0, 0, 0, 0, ([] : List Prod)⟩ : Sch), 3))) else ((slices_Clone_76 a0.ps).bind fun x9 => if 0 ≤ a1 ∧ a1 < (x9.length : Int) then (if 0 ≤ a2 ∧ a2 < (x9.length : Int) then ((impl_sum a0.p ((gl zProd x9 a1).1) ((gl zProd x9 a2).1) (w64 (a0.p - 1))).bind fun x17 => (impl_sum a0.p ((gl zProd x9 a1).2.2) ((gl zProd x9 a2).2.2) 1).bind fun x20 => if 0 ≤ a2 ∧ a2 < ((x9.set a1.toNat (x17, (gl zProd x9 a1).2.1, (gl zProd x9 a1).2.2)).length : Int) then ((impl_sum a0.p ((gl zProd x9 a2).2.1) ((gl zProd x9 a1).2.1) (w64 (a0.p - 1))).bind fun x24 => if (((x9.set a1.toNat (x17, (gl zProd x9 a1).2.1, (gl zProd x9 a1).2.2)).set a2.toNat ((gl zProd x9 a2).1, (gl zProd x9 a1).2.1, x20)).length + ([((gl zProd x9 a2).1, x24, (gl zProd x9 a2).2.2)]).length) * 27 ≤ 140737488355328 then ((impl_kept (((x9.set a1.toNat (x17, (gl zProd x9 a1).2.1, (gl zProd x9 a1).2.2)).set a2.toNat ((gl zProd x9 a2).1, (gl zProd x9 a1).2.1, x20)) ++ [((gl zProd x9 a2).1, x24, (gl zProd x9 a2).2.2)])).bind fun x28 => (impl_with a0 x28).bind fun x31 => some ((x31, 0))) else none) else none) else none) else none))))
theorem impl_PlusMove_ok {w0 : World} {a0 : Sch} {a1 : Int} {a2 : Int} {va0 : Value} (h0 : Ro (kf cProd) w0 va0 a0.ps) {r : Sch × Int} (hF : impl_PlusMove a0 a1 a2 = some r) :
    Calls Try.prog 23 [.agg ([vI a0.p, vI a0.n, vI a0.m, vI a0.k, va0]).toArray, vI a1, vI a2].toArray w0 fun e w => ∃ v, e = .returned v ∧ Below w0.heap.size w0 w ∧ ∃ u0, .tuple #[.agg [.int .i64 r.1.p, .int .i64 r.1.n, .int .i64 r.1.m, .int .i64 r.1.k, u0].toArray, .int .i64 r.2] = v ∧ Fresh (kf cProd) 78 w0 w u0 r.1.ps := by
  refine calls_of (k := 99) Try.func23 rfl rfl (Nat.le_of_ble_eq_true rfl) fun a hf => ?_
  replace hf : Fr 99 a [(0, .agg ([vI a0.p, vI a0.n, vI a0.m, vI a0.k, va0]).toArray), (1, vI a1), (2, vI a2)] := hf
  refine c_start fun w ρ hw => ?_
  unfold impl_PlusMove at hF
  refine c_seq <| c_region ?_
  refine sx_ hf (r_box (cs := [vI a0.p, vI a0.n, vI a0.m, vI a0.k, va0]) 1 hw hf rfl rfl) fun a v w hf hΦ => ?_
  obtain ⟨g1, ρ, rfl, hw, hE, o1⟩ := hΦ
  have o3 : Ow (kf cProd) 78 ρ w w0.heap.size 3 (.slice none 0 0) [] := Ow.nil _ _ _ _ _ _
  refine sx_ hf (r_alloc (cs := [vI 0, vI 0, vI 0, vI 0, (.slice none 0 0)]) 2 ze28 rfl hw) fun a v w hf hΦ => ?_
  obtain ⟨g2, ρ, rfl, hw, hE, o2⟩ := hΦ
  replace o1 := o1.ext hE
  replace o3 := o3.ext hE
  refine s_ hf (r_assign hf rfl) fun a hf => ?_
  refine c_nt <| c_seq <| c_block <| c_seq <| c_region ?_
  refine s_ hf (r_load_agg ty28 hf rfl o1.cl rfl) fun a hf => ?_
  obtain ⟨x1, hx2, hF⟩ := of_bind hF
  refine st_fn 4 hw hf rfl rfl (by decide) (r_fn en74 hf rfl) (impl_IsScheme_ok (a0 := a0) (h0.now hw) hx2) fun a v w ρ hf hw hE hN hΦ => ?_
  obtain rfl := hΦ
  replace o1 := o1.ext hE
  replace o3 := o3.ext hE
  replace o2 := o2.ext hE
  refine s_ hf (r_not hf rfl) fun a hf => ?_
  refine s_ hf (r_assign hf rfl) fun a hf => ?_
  refine c_nt ?_
  rcases of_ite hF with ⟨hb3, hF⟩ | ⟨hb3, hF⟩
  · refine c_ift hf rfl hb3 <| c_seq <| c_region ?_
    have o5 : Ow (kf cProd) 78 ρ w w0.heap.size 5 (.slice none 0 0) [] := Ow.nil _ _ _ _ _ _
    refine s_ hf (r_build_struct (pl := [(0, 1), (1, 1), (2, 1), (3, 1), (4, 1)]) (vs := []) (res := ([vI 0, vI 0, vI 0, vI 0, (.slice none 0 0)]).toArray) Try.underlying28 (by kernel_rfl) ze28 hf rfl rfl rfl) fun a hf => ?_
    refine sk_ hf (r_store_w (cs' := [vI 0, vI 0, vI 0, vI 0, (.slice none 0 0)]) hw o2 (by decide) ty28 rfl rfl (one_sch o5.ro.one) hf rfl rfl rfl) fun a w hf hΦ => ?_
    obtain ⟨hw, hA, o2⟩ := hΦ
    replace o1 := o1.adv hA (by decide)
    replace o3 := o3.adv hA (by decide)
    replace o5 := o5.adv hA (by decide)
    refine s_ hf (r_assign hf rfl) fun a hf => ?_
    refine c_nt <| c_retc ?_
    obtain rfl := Option.some.inj hF
    refine r_block <| r_then <| c_ret hf (res_ct Try.results23 ty28 hf rfl o2.cl rfl rfl) ?_
    exact ⟨_, rfl, hw.below, ⟨_, rfl, o5.out⟩⟩
  refine c_iff hf rfl hb3 <| c_seq <| c_region ?_
  refine s_ hf (r_load_agg ty28 hf rfl o1.cl rfl) fun a hf => ?_
  refine s_ hf (r_move hf rfl) fun a hf => ?_
  refine s_ hf (r_move hf rfl) fun a hf => ?_
  refine sx_ hf (r_lit (d := fI64) (xs := ([a1, a2] : List Int)) (vs := [vI a1, vI a2]) 6 Try.underlying61 el2 (Nat.le_of_ble_eq_true rfl) (Nat.le_of_ble_eq_true rfl) hw hf rfl rfl rfl) fun a v6 w hf hΦ => ?_
  obtain ⟨ρ, hw, hE, o6⟩ := hΦ
  replace o1 := o1.ext hE
  replace o3 := o3.ext hE
  replace o2 := o2.ext hE
  obtain ⟨x4, hx5, hF⟩ := of_bind hF
  refine st_fn 7 hw hf rfl rfl (by decide) (r_fn en75 hf rfl) (impl_isIndex_ok (a0 := a0) (h0.now hw) o6.ro hx5) fun a v w ρ hf hw hE hN hΦ => ?_
  obtain rfl := hΦ
  replace o1 := o1.ext hE
  replace o3 := o3.ext hE
  replace o2 := o2.ext hE
  replace o6 := o6.ext hE
  refine s_ hf (r_not hf rfl) fun a hf => ?_
  refine s_ hf (r_assign hf rfl) fun a hf => ?_
  refine c_nt ?_
  rcases of_ite hF with ⟨hb6, hF⟩ | ⟨hb6, hF⟩
  · refine c_ift hf rfl hb6 <| c_seq <| c_region ?_
    have o8 : Ow (kf cProd) 78 ρ w w0.heap.size 8 (.slice none 0 0) [] := Ow.nil _ _ _ _ _ _
    refine s_ hf (r_build_struct (pl := [(0, 1), (1, 1), (2, 1), (3, 1), (4, 1)]) (vs := []) (res := ([vI 0, vI 0, vI 0, vI 0, (.slice none 0 0)]).toArray) Try.underlying28 (by kernel_rfl) ze28 hf rfl rfl rfl) fun a hf => ?_
    refine sk_ hf (r_store_w (cs' := [vI 0, vI 0, vI 0, vI 0, (.slice none 0 0)]) hw o2 (by decide) ty28 rfl rfl (one_sch o8.ro.one) hf rfl rfl rfl) fun a w hf hΦ => ?_
    obtain ⟨hw, hA, o2⟩ := hΦ
    replace o1 := o1.adv hA (by decide)
    replace o3 := o3.adv hA (by decide)
    replace o6 := o6.adv hA (by decide)
    replace o8 := o8.adv hA (by decide)
    refine s_ hf (r_assign hf rfl) fun a hf => ?_
    refine c_nt <| c_retc ?_
    obtain rfl := Option.some.inj hF
    refine r_block <| r_then <| c_ret hf (res_ct Try.results23 ty28 hf rfl o2.cl rfl rfl) ?_
    exact ⟨_, rfl, hw.below, ⟨_, rfl, o8.out⟩⟩
  refine c_iff hf rfl hb6 <| c_seq <| c_region ?_
  refine s_ hf (r_move hf rfl) fun a hf => ?_
  refine s_ hf (r_move hf rfl) fun a hf => ?_
  refine s_ hf (r_eql hf rfl rfl) fun a hf => ?_
  refine s_ hf (r_assign hf rfl) fun a hf => ?_
  refine c_nt ?_
  rcases of_ite hF with ⟨hb7, hF⟩ | ⟨hb7, hF⟩
  · refine c_ift hf rfl hb7 <| c_seq <| c_region ?_
    have o9 : Ow (kf cProd) 78 ρ w w0.heap.size 9 (.slice none 0 0) [] := Ow.nil _ _ _ _ _ _
    refine s_ hf (r_build_struct (pl := [(0, 1), (1, 1), (2, 1), (3, 1), (4, 1)]) (vs := []) (res := ([vI 0, vI 0, vI 0, vI 0, (.slice none 0 0)]).toArray) Try.underlying28 (by kernel_rfl) ze28 hf rfl rfl rfl) fun a hf => ?_
    refine sk_ hf (r_store_w (cs' := [vI 0, vI 0, vI 0, vI 0, (.slice none 0 0)]) hw o2 (by decide) ty28 rfl rfl (one_sch o9.ro.one) hf rfl rfl rfl) fun a w hf hΦ => ?_
    obtain ⟨hw, hA, o2⟩ := hΦ
    replace o1 := o1.adv hA (by decide)
    replace o3 := o3.adv hA (by decide)
    replace o6 := o6.adv hA (by decide)
    replace o9 := o9.adv hA (by decide)
    refine s_ hf (r_assign hf rfl) fun a hf => ?_
    refine c_nt <| c_retc ?_
    obtain rfl := Option.some.inj hF
    refine r_block <| r_then <| c_ret hf (res_ct Try.results23 ty28 hf rfl o2.cl rfl rfl) ?_
    exact ⟨_, rfl, hw.below, ⟨_, rfl, o9.out⟩⟩
  refine c_iff hf rfl hb7 <| c_seq <| c_region ?_
  refine s_ hf (r_fa fa28_4 hf rfl) fun a hf => ?_
  refine s_ hf (r_load_cell ty26 hf rfl (o1.cl.at_ 4 _ rfl)) fun a hf => ?_
  refine s_ hf (r_len Try.underlying26 (h0.now hw) hf rfl) fun a hf => ?_
  refine s_ hf (r_eql hf rfl rfl) fun a hf => ?_
  refine s_ hf (r_assign hf rfl) fun a hf => ?_
  refine c_nt ?_
  rcases of_ite hF with ⟨hb8, hF⟩ | ⟨hb8, hF⟩
  · refine c_ift hf rfl hb8 <| c_seq <| c_region ?_
    have o10 : Ow (kf cProd) 78 ρ w w0.heap.size 10 (.slice none 0 0) [] := Ow.nil _ _ _ _ _ _
    refine s_ hf (r_build_struct (pl := [(0, 1), (1, 1), (2, 1), (3, 1), (4, 1)]) (vs := []) (res := ([vI 0, vI 0, vI 0, vI 0, (.slice none 0 0)]).toArray) Try.underlying28 (by kernel_rfl) ze28 hf rfl rfl rfl) fun a hf => ?_
    refine sk_ hf (r_store_w (cs' := [vI 0, vI 0, vI 0, vI 0, (.slice none 0 0)]) hw o2 (by decide) ty28 rfl rfl (one_sch o10.ro.one) hf rfl rfl rfl) fun a w hf hΦ => ?_
    obtain ⟨hw, hA, o2⟩ := hΦ
    replace o1 := o1.adv hA (by decide)
    replace o3 := o3.adv hA (by decide)
    replace o6 := o6.adv hA (by decide)
    replace o10 := o10.adv hA (by decide)
    refine s_ hf (r_assign hf rfl) fun a hf => ?_
    refine c_nt <| c_retc ?_
    obtain rfl := Option.some.inj hF
    refine r_block <| r_then <| c_ret hf (res_ct Try.results23 ty28 hf rfl o2.cl rfl rfl) ?_
    exact ⟨_, rfl, hw.below, ⟨_, rfl, o10.out⟩⟩
  refine c_iff hf rfl hb8 <| c_skip <| n_block <| n_then <| c_seq ?_
  obtain ⟨x9, hx10, hF⟩ := of_bind hF
  replace hf : Fr 99 a [(1, vI a1), (2, vI a2), (3, .pointer (some ((⟨g1, 0, none⟩ : Addr).add 0))), (6, .pointer (some ((⟨g2, 0, none⟩ : Addr).add 0)))] := hf.sub ⟨rfl, rfl, rfl, rfl, trivial⟩
  refine c_drawL (h := 5) mixed (by kernel_rfl) (by kernel_rfl) (fun ρ w => Va ρ w 1 g1 28 ([vI a0.p, vI a0.n, vI a0.m, vI a0.k, va0]) ∧ Va ρ w 2 g2 28 ([vI 0, vI 0, vI 0, vI 0, (.slice none 0 0)]) ∧ O78 ρ w w0 3 (.slice none 0 0) ([] : List Prod)) ?_ [fun ρ w v => .pointer (some ((⟨g1, 0, none⟩ : Addr).add (0 + 0))) = v, fun ρ w v => vI a0.p = v, fun ρ w v => .pointer (some ((⟨g1, 0, none⟩ : Addr).add (0 + 4))) = v, fun ρ w v => va0 = v, fun ρ w v => ∃ u11, u11 = v ∧ O78 ρ w w0 11 u11 x9] ?_ hw ⟨o1, o2, o3⟩ hf ?_ ?_
  · intro ρ w ρ' w' hE hG
    obtain ⟨o1, o2, o3⟩ := hG
    exact ⟨o1.ext hE, o2.ext hE, o3.ext hE⟩
  · exact LastsL.cons (fun _ _ _ _ _ _ h => h) <| LastsL.cons (fun _ _ _ _ _ _ h => h) <| LastsL.cons (fun _ _ _ _ _ _ h => h) <| LastsL.cons (fun _ _ _ _ _ _ h => h) <| LastsL.cons (fun _ _ _ _ _ hE h => by obtain ⟨u11, h, o11⟩ := h; exact ⟨_, h, o11.ext hE⟩) <| LastsL.nil
  · refine StepsB.cons ?_ <| StepsB.cons ?_ <| StepsB.cons ?_ <| StepsB.cons ?_ <| StepsB.cons ?_ <| StepsB.nil
    · intro ρ w a hw hG hf hd K hK
      obtain ⟨o1, o2, o3⟩ := hG
      exact dv_ hK hw (wn rfl) (r_fa fa28_0 hf rfl) rfl
    · intro ρ w a hw hG hf hd K hK
      obtain ⟨o1, o2, o3⟩ := hG
      obtain ⟨_, hf, rfl⟩ := got (hd 0 (by kernel_rfl)) hf
      exact dv_ hK hw (wn rfl) (r_load_cell ty2 hf rfl (o1.cl.at_ 0 _ rfl)) rfl
    · intro ρ w a hw hG hf hd K hK
      obtain ⟨o1, o2, o3⟩ := hG
      exact dv_ hK hw (wn rfl) (r_fa fa28_4 hf rfl) rfl
    · intro ρ w a hw hG hf hd K hK
      obtain ⟨o1, o2, o3⟩ := hG
      obtain ⟨_, hf, rfl⟩ := got (hd 2 (by kernel_rfl)) hf
      exact dv_ hK hw (wn rfl) (r_load_cell ty26 hf rfl (o1.cl.at_ 4 _ rfl)) rfl
    · intro ρ w a hw hG hf hd K hK
      obtain ⟨o1, o2, o3⟩ := hG
      obtain ⟨_, hf, rfl⟩ := got (hd 3 (by kernel_rfl)) hf
      refine dc_ hK hw (wn rfl) (r_fn en76 hf rfl) (slices_Clone_76_ok (h0.now hw) hx10) fun v w' hΦ => ?_
      obtain ⟨hb, hΦ⟩ := hΦ
      obtain ⟨u11, rfl, hr12⟩ := hΦ
      have hE := Ext.new (ρ := ρ) 11 hb
      have o11 := Fresh.own (ρ := ρ) (B := w0.heap.size) hr12 hw.below.size 11
      exact ⟨_, hw.new 11 hb, hE, ex_ <| an_ rfl <| o11⟩
  intro ρ w a hw hG hf hd
  obtain ⟨o1, o2, o3⟩ := hG
  obtain ⟨_, hf, rfl⟩ := got (hd 1 (by decide)) hf
  obtain ⟨_, hf, ⟨u11, rfl, o11⟩⟩ := got (hd 4 (by decide)) hf
  refine s_ hf (r_assign hf rfl) fun a hf => ?_
  refine s_ hf (r_assign hf rfl) fun a hf => ?_
  refine c_nt <| c_seq ?_
  obtain ⟨hc13, hF⟩ := of_guard hF
  obtain ⟨hc15, hF⟩ := of_guard hF
  replace hf : Fr 99 a [(1, vI a1), (2, vI a2), (3, .pointer (some ((⟨g1, 0, none⟩ : Addr).add 0))), (6, .pointer (some ((⟨g2, 0, none⟩ : Addr).add 0))), (8, vI a0.p), (9, u11)] := hf.sub ⟨rfl, rfl, rfl, rfl, rfl, rfl, trivial⟩
  refine c_stage 11 [10] mixed (by kernel_rfl) (by kernel_rfl) (fun c ρ w => Va ρ w 1 g1 28 ([vI a0.p, vI a0.n, vI a0.m, vI a0.k, va0]) ∧ Va ρ w 2 g2 28 ([vI 0, vI 0, vI 0, vI 0, (.slice none 0 0)]) ∧ O78 ρ w w0 3 (.slice none 0 0) ([] : List Prod) ∧ O78 ρ w w0 11 u11 x9) ?_ [fun c ρ w v => u11 = v, fun c ρ w v => vI a1 = v, fun c ρ w v => ∃ ad14, .pointer (some (ad14.add (a1.toNat * 27))) = v ∧ Ce ρ w 11 u11 x9.length ad14 (a1.toNat * 27) (cProd.enc (gl zProd x9 a1)), fun c ρ w v => .agg (cProd.enc (gl zProd x9 a1)).toArray = v, fun c ρ w v => u11 = v, fun c ρ w v => vI a2 = v, fun c ρ w v => ∃ ad16, .pointer (some (ad16.add (a2.toNat * 27))) = v ∧ Ce ρ w 11 u11 x9.length ad16 (a2.toNat * 27) (cProd.enc (gl zProd x9 a2)), fun c ρ w v => .agg (cProd.enc (gl zProd x9 a2)).toArray = v, fun c ρ w v => ∃ g14, .pointer (some ((⟨g14, 0, none⟩ : Addr).add 0)) = v ∧ (c ≤ 0 → Va ρ w 14 g14 78 (cProd.enc zProd)) ∧ (0 < c → Va ρ w 14 g14 78 (cProd.enc (gl zProd x9 a1))), fun c ρ w v => ∃ g15, .pointer (some ((⟨g15, 0, none⟩ : Addr).add 0)) = v ∧ Va ρ w 15 g15 78 (cProd.enc zProd), fun _ _ _ _ => True] ?_ hw ⟨o1, o2, o3, o11⟩ hf ?_ ?_
  · intro c ρ w ρ' w' hE hG
    obtain ⟨o1, o2, o3, o11⟩ := hG
    exact ⟨o1.ext hE, o2.ext hE, o3.ext hE, o11.ext hE⟩
  · exact LastsS.cons (fun _ _ _ _ _ _ _ h => h) <| LastsS.cons (fun _ _ _ _ _ _ _ h => h) <| LastsS.cons (fun c _ _ _ _ _ hE h => by obtain ⟨ad14, h, hl14⟩ := h; exact ⟨_, h, hl14.ext hE⟩) <| LastsS.cons (fun _ _ _ _ _ _ _ h => h) <| LastsS.cons (fun _ _ _ _ _ _ _ h => h) <| LastsS.cons (fun _ _ _ _ _ _ _ h => h) <| LastsS.cons (fun c _ _ _ _ _ hE h => by obtain ⟨ad16, h, hl16⟩ := h; exact ⟨_, h, hl16.ext hE⟩) <| LastsS.cons (fun _ _ _ _ _ _ _ h => h) <| LastsS.cons (fun c _ _ _ _ _ hE h => by obtain ⟨g14, h, hx, hy⟩ := h; exact ⟨_, h, fun h => (hx h).ext hE, (fun h => by obtain o14 := hy h; exact o14.ext hE)⟩) <| LastsS.cons (fun c _ _ _ _ _ hE h => by obtain ⟨g15, h, o15⟩ := h; exact ⟨_, h, o15.ext hE⟩) <| LastsS.cons (fun _ _ _ _ _ _ _ h => h) <| LastsS.nil
  · refine StepsS.float rfl ?_ <| StepsS.float rfl ?_ <| StepsS.float rfl ?_ <| StepsS.float rfl ?_ <| StepsS.float rfl ?_ <| StepsS.float rfl ?_ <| StepsS.float rfl ?_ <| StepsS.float rfl ?_ <| StepsS.float rfl ?_ <| StepsS.float rfl ?_ <| StepsS.main 0 rfl rfl ?_ <| StepsS.nil
    · intro c ρ w a hs hw hG hf hd K hK
      obtain ⟨o1, o2, o3, o11⟩ := hG
      exact dv_ hK hw (wn rfl) (r_move hf rfl) rfl
    · intro c ρ w a hs hw hG hf hd K hK
      obtain ⟨o1, o2, o3, o11⟩ := hG
      exact dv_ hK hw (wn rfl) (r_move hf rfl) rfl
    · intro c ρ w a hs hw hG hf hd K hK
      obtain ⟨o1, o2, o3, o11⟩ := hG
      obtain ⟨_, ht0, rfl⟩ := hd 0 (by kernel_rfl) (by kernel_rfl)
      replace hf := hf.more ht0
      obtain ⟨_, ht1, rfl⟩ := hd 1 (by kernel_rfl) (by kernel_rfl)
      replace hf := hf.more ht1
      obtain ⟨ad14, hl14⟩ := Ow.ce (d := cProd) o11 zProd hc13.1 hc13.2
      exact dv_ hK hw (wn rfl) (r_idx Try.underlying26 sz78 hf rfl hl14.at_ rfl hc13.1 hc13.2) (ex_ <| an_ rfl <| hl14)
    · intro c ρ w a hs hw hG hf hd K hK
      obtain ⟨o1, o2, o3, o11⟩ := hG
      obtain ⟨_, ht2, ⟨ad14, rfl, hl14⟩⟩ := hd 2 (by kernel_rfl) (by kernel_rfl)
      replace hf := hf.more ht2
      exact dv_ hK hw (wn rfl) (r_load_agg ty78 hf rfl hl14.co.cl (cProd.len _)) rfl
    · intro c ρ w a hs hw hG hf hd K hK
      obtain ⟨o1, o2, o3, o11⟩ := hG
      exact dv_ hK hw (wn rfl) (r_move hf rfl) rfl
    · intro c ρ w a hs hw hG hf hd K hK
      obtain ⟨o1, o2, o3, o11⟩ := hG
      exact dv_ hK hw (wn rfl) (r_move hf rfl) rfl
    · intro c ρ w a hs hw hG hf hd K hK
      obtain ⟨o1, o2, o3, o11⟩ := hG
      obtain ⟨_, ht4, rfl⟩ := hd 4 (by kernel_rfl) (by kernel_rfl)
      replace hf := hf.more ht4
      obtain ⟨_, ht5, rfl⟩ := hd 5 (by kernel_rfl) (by kernel_rfl)
      replace hf := hf.more ht5
      obtain ⟨ad16, hl16⟩ := Ow.ce (d := cProd) o11 zProd hc15.1 hc15.2
      exact dv_ hK hw (wn rfl) (r_idx Try.underlying26 sz78 hf rfl hl16.at_ rfl hc15.1 hc15.2) (ex_ <| an_ rfl <| hl16)
    · intro c ρ w a hs hw hG hf hd K hK
      obtain ⟨o1, o2, o3, o11⟩ := hG
      obtain ⟨_, ht6, ⟨ad16, rfl, hl16⟩⟩ := hd 6 (by kernel_rfl) (by kernel_rfl)
      replace hf := hf.more ht6
      exact dv_ hK hw (wn rfl) (r_load_agg ty78 hf rfl hl16.co.cl (cProd.len _)) rfl
    · intro c ρ w a hs hw hG hf hd K hK
      obtain ⟨o1, o2, o3, o11⟩ := hG
      refine dx_ hK hw (wn rfl) (r_alloc (cs := cProd.enc zProd) 14 ze78 rfl hw) fun v w' hΦ => ?_
      obtain ⟨g14, ρ, rfl, hw, hE, o14⟩ := hΦ
      exact ⟨_, hw, hE, ex_ <| an_ rfl <| an_ (fun _ => o14) <| fun hc => absurd (hs 0 (by decide) (by kernel_rfl)) (Nat.not_le_of_lt hc)⟩
    · intro c ρ w a hs hw hG hf hd K hK
      obtain ⟨o1, o2, o3, o11⟩ := hG
      refine dx_ hK hw (wn rfl) (r_alloc (cs := cProd.enc zProd) 15 ze78 rfl hw) fun v w' hΦ => ?_
      obtain ⟨g15, ρ, rfl, hw, hE, o15⟩ := hΦ
      exact ⟨_, hw, hE, ex_ <| an_ rfl <| o15⟩
    · intro ρ w a S hw hG hf hS hdep hSi K hK
      obtain ⟨o1, o2, o3, o11⟩ := hG
      have hfL := hf
      obtain ⟨_, ht3, rfl⟩ := hS 3 (by decide) (hdep 3 (by kernel_rfl)) (by kernel_rfl)
      replace hf := hf.more ht3
      obtain ⟨_, ht8, g14, rfl, hx8, hy8⟩ := hS 8 (by decide) (hdep 8 (by kernel_rfl)) (by kernel_rfl)
      have o14 := hx8 (by decide)
      replace hf := hf.more ht8
      refine m_skip (Γ := fun c ρ w => Va ρ w 1 g1 28 ([vI a0.p, vI a0.n, vI a0.m, vI a0.k, va0]) ∧ Va ρ w 2 g2 28 ([vI 0, vI 0, vI 0, vI 0, (.slice none 0 0)]) ∧ O78 ρ w w0 3 (.slice none 0 0) ([] : List Prod) ∧ O78 ρ w w0 11 u11 x9) (Rl := [fun c ρ w v => u11 = v, fun c ρ w v => vI a1 = v, fun c ρ w v => ∃ ad14, .pointer (some (ad14.add (a1.toNat * 27))) = v ∧ Ce ρ w 11 u11 x9.length ad14 (a1.toNat * 27) (cProd.enc (gl zProd x9 a1)), fun c ρ w v => .agg (cProd.enc (gl zProd x9 a1)).toArray = v, fun c ρ w v => u11 = v, fun c ρ w v => vI a2 = v, fun c ρ w v => ∃ ad16, .pointer (some (ad16.add (a2.toNat * 27))) = v ∧ Ce ρ w 11 u11 x9.length ad16 (a2.toNat * 27) (cProd.enc (gl zProd x9 a2)), fun c ρ w v => .agg (cProd.enc (gl zProd x9 a2)).toArray = v, fun c ρ w v => ∃ g14, .pointer (some ((⟨g14, 0, none⟩ : Addr).add 0)) = v ∧ (c ≤ 0 → Va ρ w 14 g14 78 (cProd.enc zProd)) ∧ (0 < c → Va ρ w 14 g14 78 (cProd.enc (gl zProd x9 a1))), fun c ρ w v => ∃ g15, .pointer (some ((⟨g15, 0, none⟩ : Addr).add 0)) = v ∧ Va ρ w 15 g15 78 (cProd.enc zProd), fun _ _ _ _ => True]) hfL hS (by kernel_rfl) rfl (wn rfl) (r_store_w (cs' := cProd.enc (gl zProd x9 a1)) hw o14 (by decide) ty78 (cProd.len _) (cProd.len _) (cProd.one _) hf rfl rfl rfl) (fun w' hΦ => ?_) hK
      obtain ⟨hw, hA, o14⟩ := hΦ
      replace o1 := o1.adv hA (by decide)
      replace o2 := o2.adv hA (by decide)
      replace o3 := o3.adv hA (by decide)
      replace o11 := o11.adv hA (by decide)
      refine ⟨_, hw, ⟨o1, o2, o3, o11⟩, ?_⟩
      · exact PassL.cons (fun h => h) <| PassL.cons (fun h => h) <| PassL.cons (fun h => by obtain ⟨_, ht, ad14, h, hl14⟩ := h; exact ⟨_, ht, _, h, hl14.adv hA (by decide)⟩) <| PassL.cons (fun h => h) <| PassL.cons (fun h => h) <| PassL.cons (fun h => h) <| PassL.cons (fun h => by obtain ⟨_, ht, ad16, h, hl16⟩ := h; exact ⟨_, ht, _, h, hl16.adv hA (by decide)⟩) <| PassL.cons (fun h => h) <| PassL.cons (fun _ => ⟨_, ht8, _, rfl, fun h => absurd h (by decide), fun _ => o14⟩) <| PassL.cons (fun h => by obtain ⟨_, ht, g15, h, o15⟩ := h; exact ⟨_, ht, _, h, o15.adv hA (by decide)⟩) <| PassL.here <| PassL.nil
  intro ρ w a hw hG hf hd
  obtain ⟨o1, o2, o3, o11⟩ := hG
  obtain ⟨_, hf, rfl⟩ := got (hd 7 (by decide) (by kernel_rfl)) hf
  obtain ⟨_, ht, g14, rfl, hx, hy⟩ := hd 8 (by decide) (by kernel_rfl)
  obtain o14 := hy (by decide)
  replace hf := hf.more ht
  obtain ⟨_, hf, ⟨g15, rfl, o15⟩⟩ := got (hd 9 (by decide) (by kernel_rfl)) hf
  refine sk_ hf (r_store_w (cs' := cProd.enc (gl zProd x9 a2)) hw o15 (by decide) ty78 (cProd.len _) (cProd.len _) (cProd.one _) hf rfl rfl rfl) fun a w hf hΦ => ?_
  obtain ⟨hw, hA, o15⟩ := hΦ
  replace o1 := o1.adv hA (by decide)
  replace o2 := o2.adv hA (by decide)
  replace o3 := o3.adv hA (by decide)
  replace o11 := o11.adv hA (by decide)
  replace o14 := o14.adv hA (by decide)
  refine c_nt <| c_seq ?_
  obtain ⟨x17, hx18, hF⟩ := of_bind hF
  replace hf : Fr 99 a [(1, vI a1), (2, vI a2), (3, .pointer (some ((⟨g1, 0, none⟩ : Addr).add 0))), (6, .pointer (some ((⟨g2, 0, none⟩ : Addr).add 0))), (8, vI a0.p), (9, u11), (10, .pointer (some ((⟨g14, 0, none⟩ : Addr).add 0))), (11, .pointer (some ((⟨g15, 0, none⟩ : Addr).add 0)))] := hf.sub ⟨rfl, rfl, rfl, rfl, rfl, rfl, rfl, rfl, trivial⟩
  refine c_drawL (h := 15) mixed (by kernel_rfl) (by kernel_rfl) (fun ρ w => Va ρ w 1 g1 28 ([vI a0.p, vI a0.n, vI a0.m, vI a0.k, va0]) ∧ Va ρ w 2 g2 28 ([vI 0, vI 0, vI 0, vI 0, (.slice none 0 0)]) ∧ O78 ρ w w0 3 (.slice none 0 0) ([] : List Prod) ∧ O78 ρ w w0 11 u11 x9 ∧ Va ρ w 14 g14 78 (cProd.enc (gl zProd x9 a1)) ∧ Va ρ w 15 g15 78 (cProd.enc (gl zProd x9 a2))) ?_ [fun ρ w v => u11 = v, fun ρ w v => vI a1 = v, fun ρ w v => vI a0.p = v, fun ρ w v => .pointer (some ((⟨g14, 0, none⟩ : Addr).add (0 + 0))) = v, fun ρ w v => .agg (cForm.enc ((gl zProd x9 a1).1)).toArray = v, fun ρ w v => .pointer (some ((⟨g15, 0, none⟩ : Addr).add (0 + 0))) = v, fun ρ w v => .agg (cForm.enc ((gl zProd x9 a2).1)).toArray = v, fun ρ w v => vI a0.p = v, fun ρ w v => vI (w64 (a0.p - 1)) = v, fun ρ w v => .agg (cForm.enc x17).toArray = v, fun ρ w v => .pointer (some ((⟨g14, 0, none⟩ : Addr).add (0 + 9))) = v, fun ρ w v => .agg (cForm.enc ((gl zProd x9 a1).2.1)).toArray = v, fun ρ w v => .pointer (some ((⟨g14, 0, none⟩ : Addr).add (0 + 18))) = v, fun ρ w v => .agg (cForm.enc ((gl zProd x9 a1).2.2)).toArray = v, fun ρ w v => .agg (cProd.enc (x17, (gl zProd x9 a1).2.1, (gl zProd x9 a1).2.2)).toArray = v] ?_ hw ⟨o1, o2, o3, o11, o14, o15⟩ hf ?_ ?_
  · intro ρ w ρ' w' hE hG
    obtain ⟨o1, o2, o3, o11, o14, o15⟩ := hG
    exact ⟨o1.ext hE, o2.ext hE, o3.ext hE, o11.ext hE, o14.ext hE, o15.ext hE⟩
  · exact LastsL.cons (fun _ _ _ _ _ _ h => h) <| LastsL.cons (fun _ _ _ _ _ _ h => h) <| LastsL.cons (fun _ _ _ _ _ _ h => h) <| LastsL.cons (fun _ _ _ _ _ _ h => h) <| LastsL.cons (fun _ _ _ _ _ _ h => h) <| LastsL.cons (fun _ _ _ _ _ _ h => h) <| LastsL.cons (fun _ _ _ _ _ _ h => h) <| LastsL.cons (fun _ _ _ _ _ _ h => h) <| LastsL.cons (fun _ _ _ _ _ _ h => h) <| LastsL.cons (fun _ _ _ _ _ _ h => h) <| LastsL.cons (fun _ _ _ _ _ _ h => h) <| LastsL.cons (fun _ _ _ _ _ _ h => h) <| LastsL.cons (fun _ _ _ _ _ _ h => h) <| LastsL.cons (fun _ _ _ _ _ _ h => h) <| LastsL.cons (fun _ _ _ _ _ _ h => h) <| LastsL.nil
  · refine StepsB.cons ?_ <| StepsB.cons ?_ <| StepsB.cons ?_ <| StepsB.cons ?_ <| StepsB.cons ?_ <| StepsB.cons ?_ <| StepsB.cons ?_ <| StepsB.cons ?_ <| StepsB.cons ?_ <| StepsB.cons ?_ <| StepsB.cons ?_ <| StepsB.cons ?_ <| StepsB.cons ?_ <| StepsB.cons ?_ <| StepsB.cons ?_ <| StepsB.nil
    · intro ρ w a hw hG hf hd K hK
      obtain ⟨o1, o2, o3, o11, o14, o15⟩ := hG
      exact dv_ hK hw (wn rfl) (r_move hf rfl) rfl
    · intro ρ w a hw hG hf hd K hK
      obtain ⟨o1, o2, o3, o11, o14, o15⟩ := hG
      exact dv_ hK hw (wn rfl) (r_move hf rfl) rfl
    · intro ρ w a hw hG hf hd K hK
      obtain ⟨o1, o2, o3, o11, o14, o15⟩ := hG
      exact dv_ hK hw (wn rfl) (r_move hf rfl) rfl
    · intro ρ w a hw hG hf hd K hK
      obtain ⟨o1, o2, o3, o11, o14, o15⟩ := hG
      exact dv_ hK hw (wn rfl) (r_fa fa78_0 hf rfl) rfl
    · intro ρ w a hw hG hf hd K hK
      obtain ⟨o1, o2, o3, o11, o14, o15⟩ := hG
      obtain ⟨_, hf, rfl⟩ := got (hd 3 (by kernel_rfl)) hf
      exact dv_ hK hw (wn rfl) (r_load_agg ty39 hf rfl (o14.cl.lens lProd_0) (cForm.len _)) rfl
    · intro ρ w a hw hG hf hd K hK
      obtain ⟨o1, o2, o3, o11, o14, o15⟩ := hG
      exact dv_ hK hw (wn rfl) (r_fa fa78_0 hf rfl) rfl
    · intro ρ w a hw hG hf hd K hK
      obtain ⟨o1, o2, o3, o11, o14, o15⟩ := hG
      obtain ⟨_, hf, rfl⟩ := got (hd 5 (by kernel_rfl)) hf
      exact dv_ hK hw (wn rfl) (r_load_agg ty39 hf rfl (o15.cl.lens lProd_0) (cForm.len _)) rfl
    · intro ρ w a hw hG hf hd K hK
      obtain ⟨o1, o2, o3, o11, o14, o15⟩ := hG
      exact dv_ hK hw (wn rfl) (r_move hf rfl) rfl
    · intro ρ w a hw hG hf hd K hK
      obtain ⟨o1, o2, o3, o11, o14, o15⟩ := hG
      obtain ⟨_, hf, rfl⟩ := got (hd 7 (by kernel_rfl)) hf
      exact dv_ hK hw (wn rfl) (r_sub hf rfl rfl) rfl
    · intro ρ w a hw hG hf hd K hK
      obtain ⟨o1, o2, o3, o11, o14, o15⟩ := hG
      obtain ⟨_, hf, rfl⟩ := got (hd 2 (by kernel_rfl)) hf
      obtain ⟨_, hf, rfl⟩ := got (hd 4 (by kernel_rfl)) hf
      obtain ⟨_, hf, rfl⟩ := got (hd 6 (by kernel_rfl)) hf
      obtain ⟨_, hf, rfl⟩ := got (hd 8 (by kernel_rfl)) hf
      refine dc_ hK hw (wn rfl) (r_fn en77 hf rfl) (impl_sum_ok  hx18) fun v w' hΦ => ?_
      obtain ⟨hb, hΦ⟩ := hΦ
      obtain rfl := hΦ
      have hE := Ext.new (ρ := ρ) 16 hb
      exact ⟨_, hw.new 16 hb, hE, rfl⟩
    · intro ρ w a hw hG hf hd K hK
      obtain ⟨o1, o2, o3, o11, o14, o15⟩ := hG
      exact dv_ hK hw (wn rfl) (r_fa fa78_1 hf rfl) rfl
    · intro ρ w a hw hG hf hd K hK
      obtain ⟨o1, o2, o3, o11, o14, o15⟩ := hG
      obtain ⟨_, hf, rfl⟩ := got (hd 10 (by kernel_rfl)) hf
      exact dv_ hK hw (wn rfl) (r_load_agg ty39 hf rfl (o14.cl.lens lProd_1) (cForm.len _)) rfl
    · intro ρ w a hw hG hf hd K hK
      obtain ⟨o1, o2, o3, o11, o14, o15⟩ := hG
      exact dv_ hK hw (wn rfl) (r_fa fa78_2 hf rfl) rfl
    · intro ρ w a hw hG hf hd K hK
      obtain ⟨o1, o2, o3, o11, o14, o15⟩ := hG
      obtain ⟨_, hf, rfl⟩ := got (hd 12 (by kernel_rfl)) hf
      exact dv_ hK hw (wn rfl) (r_load_agg ty39 hf rfl (o14.cl.lens lProd_2) (cForm.len _)) rfl
    · intro ρ w a hw hG hf hd K hK
      obtain ⟨o1, o2, o3, o11, o14, o15⟩ := hG
      obtain ⟨_, hf, rfl⟩ := got (hd 9 (by kernel_rfl)) hf
      obtain ⟨_, hf, rfl⟩ := got (hd 11 (by kernel_rfl)) hf
      obtain ⟨_, hf, rfl⟩ := got (hd 13 (by kernel_rfl)) hf
      exact dv_ hK hw (wn rfl) (r_build_struct (pl := [(0, 9), (9, 9), (18, 9)]) (vs := [(0, .agg (cForm.enc x17).toArray), (1, .agg (cForm.enc ((gl zProd x9 a1).2.1)).toArray), (2, .agg (cForm.enc ((gl zProd x9 a1).2.2)).toArray)]) (res := (cProd.enc (x17, (gl zProd x9 a1).2.1, (gl zProd x9 a1).2.2)).toArray) Try.underlying78 (by kernel_rfl) ze78 hf rfl rfl ((fill_lens (d := cProd) (z := zProd) lProd_0 rfl rfl).trans ((fill_lens (d := cProd) (z := (x17, zProd.2.1, zProd.2.2)) lProd_1 rfl rfl).trans ((fill_lens (d := cProd) (z := (x17, (gl zProd x9 a1).2.1, zProd.2.2)) lProd_2 rfl rfl).trans rfl)))) rfl
  intro ρ w a hw hG hf hd
  obtain ⟨o1, o2, o3, o11, o14, o15⟩ := hG
  obtain ⟨_, hf, rfl⟩ := got (hd 0 (by decide)) hf
  obtain ⟨_, hf, rfl⟩ := got (hd 1 (by decide)) hf
  obtain ⟨_, hf, rfl⟩ := got (hd 14 (by decide)) hf
  obtain ⟨ad19, hl19⟩ := Ow.ce (d := cProd) o11 zProd hc13.1 hc13.2
  refine s_ hf (r_idx Try.underlying26 sz78 hf rfl hl19.at_ rfl hc13.1 hc13.2) fun a hf => ?_
  refine sk_ hf (r_store_ec (b := (x17, (gl zProd x9 a1).2.1, (gl zProd x9 a1).2.2)) zProd hw (by decide) o11 hc13.1 hc13.2 (Lens.id _) hl19.at_ ty78 (by first | rfl | exact Nat.add_assoc _ _ _ | (simp only [Nat.add_assoc]; rfl)) hf rfl rfl rfl) fun a w hf hΦ => ?_
  obtain ⟨hw, hA, o11⟩ := hΦ
  replace o1 := o1.adv hA (by decide)
  replace o2 := o2.adv hA (by decide)
  replace o3 := o3.adv hA (by decide)
  replace o14 := o14.adv hA (by decide)
  replace o15 := o15.adv hA (by decide)
  refine c_nt <| c_seq ?_
  obtain ⟨x20, hx21, hF⟩ := of_bind hF
  replace hf : Fr 99 a [(2, vI a2), (3, .pointer (some ((⟨g1, 0, none⟩ : Addr).add 0))), (6, .pointer (some ((⟨g2, 0, none⟩ : Addr).add 0))), (8, vI a0.p), (9, u11), (10, .pointer (some ((⟨g14, 0, none⟩ : Addr).add 0))), (11, .pointer (some ((⟨g15, 0, none⟩ : Addr).add 0)))] := hf.sub ⟨rfl, rfl, rfl, rfl, rfl, rfl, rfl, trivial⟩
  refine c_drawL (h := 13) mixed (by kernel_rfl) (by kernel_rfl) (fun ρ w => Va ρ w 1 g1 28 ([vI a0.p, vI a0.n, vI a0.m, vI a0.k, va0]) ∧ Va ρ w 2 g2 28 ([vI 0, vI 0, vI 0, vI 0, (.slice none 0 0)]) ∧ O78 ρ w w0 3 (.slice none 0 0) ([] : List Prod) ∧ O78 ρ w w0 11 u11 (x9.set a1.toNat (x17, (gl zProd x9 a1).2.1, (gl zProd x9 a1).2.2)) ∧ Va ρ w 14 g14 78 (cProd.enc (gl zProd x9 a1)) ∧ Va ρ w 15 g15 78 (cProd.enc (gl zProd x9 a2))) ?_ [fun ρ w v => u11 = v, fun ρ w v => vI a2 = v, fun ρ w v => .pointer (some ((⟨g15, 0, none⟩ : Addr).add (0 + 0))) = v, fun ρ w v => .agg (cForm.enc ((gl zProd x9 a2).1)).toArray = v, fun ρ w v => .pointer (some ((⟨g14, 0, none⟩ : Addr).add (0 + 9))) = v, fun ρ w v => .agg (cForm.enc ((gl zProd x9 a1).2.1)).toArray = v, fun ρ w v => vI a0.p = v, fun ρ w v => .pointer (some ((⟨g14, 0, none⟩ : Addr).add (0 + 18))) = v, fun ρ w v => .agg (cForm.enc ((gl zProd x9 a1).2.2)).toArray = v, fun ρ w v => .pointer (some ((⟨g15, 0, none⟩ : Addr).add (0 + 18))) = v, fun ρ w v => .agg (cForm.enc ((gl zProd x9 a2).2.2)).toArray = v, fun ρ w v => .agg (cForm.enc x20).toArray = v, fun ρ w v => .agg (cProd.enc ((gl zProd x9 a2).1, (gl zProd x9 a1).2.1, x20)).toArray = v] ?_ hw ⟨o1, o2, o3, o11, o14, o15⟩ hf ?_ ?_
  · intro ρ w ρ' w' hE hG
    obtain ⟨o1, o2, o3, o11, o14, o15⟩ := hG
    exact ⟨o1.ext hE, o2.ext hE, o3.ext hE, o11.ext hE, o14.ext hE, o15.ext hE⟩
  · exact LastsL.cons (fun _ _ _ _ _ _ h => h) <| LastsL.cons (fun _ _ _ _ _ _ h => h) <| LastsL.cons (fun _ _ _ _ _ _ h => h) <| LastsL.cons (fun _ _ _ _ _ _ h => h) <| LastsL.cons (fun _ _ _ _ _ _ h => h) <| LastsL.cons (fun _ _ _ _ _ _ h => h) <| LastsL.cons (fun _ _ _ _ _ _ h => h) <| LastsL.cons (fun _ _ _ _ _ _ h => h) <| LastsL.cons (fun _ _ _ _ _ _ h => h) <| LastsL.cons (fun _ _ _ _ _ _ h => h) <| LastsL.cons (fun _ _ _ _ _ _ h => h) <| LastsL.cons (fun _ _ _ _ _ _ h => h) <| LastsL.cons (fun _ _ _ _ _ _ h => h) <| LastsL.nil
  · refine StepsB.cons ?_ <| StepsB.cons ?_ <| StepsB.cons ?_ <| StepsB.cons ?_ <| StepsB.cons ?_ <| StepsB.cons ?_ <| StepsB.cons ?_ <| StepsB.cons ?_ <| StepsB.cons ?_ <| StepsB.cons ?_ <| StepsB.cons ?_ <| StepsB.cons ?_ <| StepsB.cons ?_ <| StepsB.nil
    · intro ρ w a hw hG hf hd K hK
      obtain ⟨o1, o2, o3, o11, o14, o15⟩ := hG
      exact dv_ hK hw (wn rfl) (r_move hf rfl) rfl
    · intro ρ w a hw hG hf hd K hK
      obtain ⟨o1, o2, o3, o11, o14, o15⟩ := hG
      exact dv_ hK hw (wn rfl) (r_move hf rfl) rfl
    · intro ρ w a hw hG hf hd K hK
      obtain ⟨o1, o2, o3, o11, o14, o15⟩ := hG
      exact dv_ hK hw (wn rfl) (r_fa fa78_0 hf rfl) rfl
    · intro ρ w a hw hG hf hd K hK
      obtain ⟨o1, o2, o3, o11, o14, o15⟩ := hG
      obtain ⟨_, hf, rfl⟩ := got (hd 2 (by kernel_rfl)) hf
      exact dv_ hK hw (wn rfl) (r_load_agg ty39 hf rfl (o15.cl.lens lProd_0) (cForm.len _)) rfl
    · intro ρ w a hw hG hf hd K hK
      obtain ⟨o1, o2, o3, o11, o14, o15⟩ := hG
      exact dv_ hK hw (wn rfl) (r_fa fa78_1 hf rfl) rfl
    · intro ρ w a hw hG hf hd K hK
      obtain ⟨o1, o2, o3, o11, o14, o15⟩ := hG
      obtain ⟨_, hf, rfl⟩ := got (hd 4 (by kernel_rfl)) hf
      exact dv_ hK hw (wn rfl) (r_load_agg ty39 hf rfl (o14.cl.lens lProd_1) (cForm.len _)) rfl
    · intro ρ w a hw hG hf hd K hK
      obtain ⟨o1, o2, o3, o11, o14, o15⟩ := hG
      exact dv_ hK hw (wn rfl) (r_move hf rfl) rfl
    · intro ρ w a hw hG hf hd K hK
      obtain ⟨o1, o2, o3, o11, o14, o15⟩ := hG
      exact dv_ hK hw (wn rfl) (r_fa fa78_2 hf rfl) rfl
    · intro ρ w a hw hG hf hd K hK
      obtain ⟨o1, o2, o3, o11, o14, o15⟩ := hG
      obtain ⟨_, hf, rfl⟩ := got (hd 7 (by kernel_rfl)) hf
      exact dv_ hK hw (wn rfl) (r_load_agg ty39 hf rfl (o14.cl.lens lProd_2) (cForm.len _)) rfl
    · intro ρ w a hw hG hf hd K hK
      obtain ⟨o1, o2, o3, o11, o14, o15⟩ := hG
      exact dv_ hK hw (wn rfl) (r_fa fa78_2 hf rfl) rfl
    · intro ρ w a hw hG hf hd K hK
      obtain ⟨o1, o2, o3, o11, o14, o15⟩ := hG
      obtain ⟨_, hf, rfl⟩ := got (hd 9 (by kernel_rfl)) hf
      exact dv_ hK hw (wn rfl) (r_load_agg ty39 hf rfl (o15.cl.lens lProd_2) (cForm.len _)) rfl
    · intro ρ w a hw hG hf hd K hK
      obtain ⟨o1, o2, o3, o11, o14, o15⟩ := hG
      obtain ⟨_, hf, rfl⟩ := got (hd 6 (by kernel_rfl)) hf
      obtain ⟨_, hf, rfl⟩ := got (hd 8 (by kernel_rfl)) hf
      obtain ⟨_, hf, rfl⟩ := got (hd 10 (by kernel_rfl)) hf
      refine dc_ hK hw (wn rfl) (r_fn en77 hf rfl) (impl_sum_ok  hx21) fun v w' hΦ => ?_
      obtain ⟨hb, hΦ⟩ := hΦ
      obtain rfl := hΦ
      have hE := Ext.new (ρ := ρ) 18 hb
      exact ⟨_, hw.new 18 hb, hE, rfl⟩
    · intro ρ w a hw hG hf hd K hK
      obtain ⟨o1, o2, o3, o11, o14, o15⟩ := hG
      obtain ⟨_, hf, rfl⟩ := got (hd 3 (by kernel_rfl)) hf
      obtain ⟨_, hf, rfl⟩ := got (hd 5 (by kernel_rfl)) hf
      obtain ⟨_, hf, rfl⟩ := got (hd 11 (by kernel_rfl)) hf
      exact dv_ hK hw (wn rfl) (r_build_struct (pl := [(0, 9), (9, 9), (18, 9)]) (vs := [(0, .agg (cForm.enc ((gl zProd x9 a2).1)).toArray), (1, .agg (cForm.enc ((gl zProd x9 a1).2.1)).toArray), (2, .agg (cForm.enc x20).toArray)]) (res := (cProd.enc ((gl zProd x9 a2).1, (gl zProd x9 a1).2.1, x20)).toArray) Try.underlying78 (by kernel_rfl) ze78 hf rfl rfl ((fill_lens (d := cProd) (z := zProd) lProd_0 rfl rfl).trans ((fill_lens (d := cProd) (z := ((gl zProd x9 a2).1, zProd.2.1, zProd.2.2)) lProd_1 rfl rfl).trans ((fill_lens (d := cProd) (z := ((gl zProd x9 a2).1, (gl zProd x9 a1).2.1, zProd.2.2)) lProd_2 rfl rfl).trans rfl)))) rfl
  intro ρ w a hw hG hf hd
  obtain ⟨o1, o2, o3, o11, o14, o15⟩ := hG
  obtain ⟨_, hf, rfl⟩ := got (hd 0 (by decide)) hf
  obtain ⟨_, hf, rfl⟩ := got (hd 1 (by decide)) hf
  obtain ⟨_, hf, rfl⟩ := got (hd 12 (by decide)) hf
  obtain ⟨hc22, hF⟩ := of_guard hF
  obtain ⟨ad23, hl23⟩ := Ow.ce (d := cProd) o11 zProd hc22.1 hc22.2
  refine s_ hf (r_idx Try.underlying26 sz78 hf rfl hl23.at_ rfl hc22.1 hc22.2) fun a hf => ?_
  refine sk_ hf (r_store_ec (b := ((gl zProd x9 a2).1, (gl zProd x9 a1).2.1, x20)) zProd hw (by decide) o11 hc22.1 hc22.2 (Lens.id _) hl23.at_ ty78 (by first | rfl | exact Nat.add_assoc _ _ _ | (simp only [Nat.add_assoc]; rfl)) hf rfl rfl rfl) fun a w hf hΦ => ?_
  obtain ⟨hw, hA, o11⟩ := hΦ
  replace o1 := o1.adv hA (by decide)
  replace o2 := o2.adv hA (by decide)
  replace o3 := o3.adv hA (by decide)
  replace o14 := o14.adv hA (by decide)
  replace o15 := o15.adv hA (by decide)
  refine c_nt <| c_seq ?_
  obtain ⟨x24, hx25, hF⟩ := of_bind hF
  replace hf : Fr 99 a [(3, .pointer (some ((⟨g1, 0, none⟩ : Addr).add 0))), (6, .pointer (some ((⟨g2, 0, none⟩ : Addr).add 0))), (8, vI a0.p), (9, u11), (10, .pointer (some ((⟨g14, 0, none⟩ : Addr).add 0))), (11, .pointer (some ((⟨g15, 0, none⟩ : Addr).add 0)))] := hf.sub ⟨rfl, rfl, rfl, rfl, rfl, rfl, trivial⟩
  refine c_drawL (h := 15) mixed (by kernel_rfl) (by kernel_rfl) (fun ρ w => Va ρ w 1 g1 28 ([vI a0.p, vI a0.n, vI a0.m, vI a0.k, va0]) ∧ Va ρ w 2 g2 28 ([vI 0, vI 0, vI 0, vI 0, (.slice none 0 0)]) ∧ O78 ρ w w0 3 (.slice none 0 0) ([] : List Prod) ∧ O78 ρ w w0 11 u11 ((x9.set a1.toNat (x17, (gl zProd x9 a1).2.1, (gl zProd x9 a1).2.2)).set a2.toNat ((gl zProd x9 a2).1, (gl zProd x9 a1).2.1, x20)) ∧ Va ρ w 14 g14 78 (cProd.enc (gl zProd x9 a1)) ∧ Va ρ w 15 g15 78 (cProd.enc (gl zProd x9 a2))) ?_ [fun ρ w v => u11 = v, fun ρ w v => .pointer (some ((⟨g15, 0, none⟩ : Addr).add (0 + 0))) = v, fun ρ w v => .agg (cForm.enc ((gl zProd x9 a2).1)).toArray = v, fun ρ w v => vI a0.p = v, fun ρ w v => .pointer (some ((⟨g15, 0, none⟩ : Addr).add (0 + 9))) = v, fun ρ w v => .agg (cForm.enc ((gl zProd x9 a2).2.1)).toArray = v, fun ρ w v => .pointer (some ((⟨g14, 0, none⟩ : Addr).add (0 + 9))) = v, fun ρ w v => .agg (cForm.enc ((gl zProd x9 a1).2.1)).toArray = v, fun ρ w v => vI a0.p = v, fun ρ w v => vI (w64 (a0.p - 1)) = v, fun ρ w v => .agg (cForm.enc x24).toArray = v, fun ρ w v => .pointer (some ((⟨g15, 0, none⟩ : Addr).add (0 + 18))) = v, fun ρ w v => .agg (cForm.enc ((gl zProd x9 a2).2.2)).toArray = v, fun ρ w v => .agg (cProd.enc ((gl zProd x9 a2).1, x24, (gl zProd x9 a2).2.2)).toArray = v, fun ρ w v => ∃ v21, v21 = v ∧ O78 ρ w w0 21 v21 ([((gl zProd x9 a2).1, x24, (gl zProd x9 a2).2.2)])] ?_ hw ⟨o1, o2, o3, o11, o14, o15⟩ hf ?_ ?_
  · intro ρ w ρ' w' hE hG
    obtain ⟨o1, o2, o3, o11, o14, o15⟩ := hG
    exact ⟨o1.ext hE, o2.ext hE, o3.ext hE, o11.ext hE, o14.ext hE, o15.ext hE⟩
  · exact LastsL.cons (fun _ _ _ _ _ _ h => h) <| LastsL.cons (fun _ _ _ _ _ _ h => h) <| LastsL.cons (fun _ _ _ _ _ _ h => h) <| LastsL.cons (fun _ _ _ _ _ _ h => h) <| LastsL.cons (fun _ _ _ _ _ _ h => h) <| LastsL.cons (fun _ _ _ _ _ _ h => h) <| LastsL.cons (fun _ _ _ _ _ _ h => h) <| LastsL.cons (fun _ _ _ _ _ _ h => h) <| LastsL.cons (fun _ _ _ _ _ _ h => h) <| LastsL.cons (fun _ _ _ _ _ _ h => h) <| LastsL.cons (fun _ _ _ _ _ _ h => h) <| LastsL.cons (fun _ _ _ _ _ _ h => h) <| LastsL.cons (fun _ _ _ _ _ _ h => h) <| LastsL.cons (fun _ _ _ _ _ _ h => h) <| LastsL.cons (fun _ _ _ _ _ hE h => by obtain ⟨v21, h, o21⟩ := h; exact ⟨_, h, o21.ext hE⟩) <| LastsL.nil
  · refine StepsB.cons ?_ <| StepsB.cons ?_ <| StepsB.cons ?_ <| StepsB.cons ?_ <| StepsB.cons ?_ <| StepsB.cons ?_ <| StepsB.cons ?_ <| StepsB.cons ?_ <| StepsB.cons ?_ <| StepsB.cons ?_ <| StepsB.cons ?_ <| StepsB.cons ?_ <| StepsB.cons ?_ <| StepsB.cons ?_ <| StepsB.cons ?_ <| StepsB.nil
    · intro ρ w a hw hG hf hd K hK
      obtain ⟨o1, o2, o3, o11, o14, o15⟩ := hG
      exact dv_ hK hw (wn rfl) (r_move hf rfl) rfl
    · intro ρ w a hw hG hf hd K hK
      obtain ⟨o1, o2, o3, o11, o14, o15⟩ := hG
      exact dv_ hK hw (wn rfl) (r_fa fa78_0 hf rfl) rfl
    · intro ρ w a hw hG hf hd K hK
      obtain ⟨o1, o2, o3, o11, o14, o15⟩ := hG
      obtain ⟨_, hf, rfl⟩ := got (hd 1 (by kernel_rfl)) hf
      exact dv_ hK hw (wn rfl) (r_load_agg ty39 hf rfl (o15.cl.lens lProd_0) (cForm.len _)) rfl
    · intro ρ w a hw hG hf hd K hK
      obtain ⟨o1, o2, o3, o11, o14, o15⟩ := hG
      exact dv_ hK hw (wn rfl) (r_move hf rfl) rfl
    · intro ρ w a hw hG hf hd K hK
      obtain ⟨o1, o2, o3, o11, o14, o15⟩ := hG
      exact dv_ hK hw (wn rfl) (r_fa fa78_1 hf rfl) rfl
    · intro ρ w a hw hG hf hd K hK
      obtain ⟨o1, o2, o3, o11, o14, o15⟩ := hG
      obtain ⟨_, hf, rfl⟩ := got (hd 4 (by kernel_rfl)) hf
      exact dv_ hK hw (wn rfl) (r_load_agg ty39 hf rfl (o15.cl.lens lProd_1) (cForm.len _)) rfl
    · intro ρ w a hw hG hf hd K hK
      obtain ⟨o1, o2, o3, o11, o14, o15⟩ := hG
      exact dv_ hK hw (wn rfl) (r_fa fa78_1 hf rfl) rfl
    · intro ρ w a hw hG hf hd K hK
      obtain ⟨o1, o2, o3, o11, o14, o15⟩ := hG
      obtain ⟨_, hf, rfl⟩ := got (hd 6 (by kernel_rfl)) hf
      exact dv_ hK hw (wn rfl) (r_load_agg ty39 hf rfl (o14.cl.lens lProd_1) (cForm.len _)) rfl
    · intro ρ w a hw hG hf hd K hK
      obtain ⟨o1, o2, o3, o11, o14, o15⟩ := hG
      exact dv_ hK hw (wn rfl) (r_move hf rfl) rfl
    · intro ρ w a hw hG hf hd K hK
      obtain ⟨o1, o2, o3, o11, o14, o15⟩ := hG
      obtain ⟨_, hf, rfl⟩ := got (hd 8 (by kernel_rfl)) hf
      exact dv_ hK hw (wn rfl) (r_sub hf rfl rfl) rfl
    · intro ρ w a hw hG hf hd K hK
      obtain ⟨o1, o2, o3, o11, o14, o15⟩ := hG
      obtain ⟨_, hf, rfl⟩ := got (hd 3 (by kernel_rfl)) hf
      obtain ⟨_, hf, rfl⟩ := got (hd 5 (by kernel_rfl)) hf
      obtain ⟨_, hf, rfl⟩ := got (hd 7 (by kernel_rfl)) hf
      obtain ⟨_, hf, rfl⟩ := got (hd 9 (by kernel_rfl)) hf
      refine dc_ hK hw (wn rfl) (r_fn en77 hf rfl) (impl_sum_ok  hx25) fun v w' hΦ => ?_
      obtain ⟨hb, hΦ⟩ := hΦ
      obtain rfl := hΦ
      have hE := Ext.new (ρ := ρ) 20 hb
      exact ⟨_, hw.new 20 hb, hE, rfl⟩
    · intro ρ w a hw hG hf hd K hK
      obtain ⟨o1, o2, o3, o11, o14, o15⟩ := hG
      exact dv_ hK hw (wn rfl) (r_fa fa78_2 hf rfl) rfl
    · intro ρ w a hw hG hf hd K hK
      obtain ⟨o1, o2, o3, o11, o14, o15⟩ := hG
      obtain ⟨_, hf, rfl⟩ := got (hd 11 (by kernel_rfl)) hf
      exact dv_ hK hw (wn rfl) (r_load_agg ty39 hf rfl (o15.cl.lens lProd_2) (cForm.len _)) rfl
    · intro ρ w a hw hG hf hd K hK
      obtain ⟨o1, o2, o3, o11, o14, o15⟩ := hG
      obtain ⟨_, hf, rfl⟩ := got (hd 2 (by kernel_rfl)) hf
      obtain ⟨_, hf, rfl⟩ := got (hd 10 (by kernel_rfl)) hf
      obtain ⟨_, hf, rfl⟩ := got (hd 12 (by kernel_rfl)) hf
      exact dv_ hK hw (wn rfl) (r_build_struct (pl := [(0, 9), (9, 9), (18, 9)]) (vs := [(0, .agg (cForm.enc ((gl zProd x9 a2).1)).toArray), (1, .agg (cForm.enc x24).toArray), (2, .agg (cForm.enc ((gl zProd x9 a2).2.2)).toArray)]) (res := (cProd.enc ((gl zProd x9 a2).1, x24, (gl zProd x9 a2).2.2)).toArray) Try.underlying78 (by kernel_rfl) ze78 hf rfl rfl ((fill_lens (d := cProd) (z := zProd) lProd_0 rfl rfl).trans ((fill_lens (d := cProd) (z := ((gl zProd x9 a2).1, zProd.2.1, zProd.2.2)) lProd_1 rfl rfl).trans ((fill_lens (d := cProd) (z := ((gl zProd x9 a2).1, x24, zProd.2.2)) lProd_2 rfl rfl).trans rfl)))) rfl
    · intro ρ w a hw hG hf hd K hK
      obtain ⟨o1, o2, o3, o11, o14, o15⟩ := hG
      obtain ⟨_, hf, rfl⟩ := got (hd 13 (by kernel_rfl)) hf
      refine dx_ hK hw (wn rfl) (r_lit (d := cProd) (xs := ([((gl zProd x9 a2).1, x24, (gl zProd x9 a2).2.2)] : List Prod)) (vs := [.agg (cProd.enc ((gl zProd x9 a2).1, x24, (gl zProd x9 a2).2.2)).toArray]) 21 Try.underlying26 el78 (Nat.le_of_ble_eq_true rfl) (Nat.le_of_ble_eq_true rfl) hw hf rfl rfl rfl) fun v21 w' hΦ => ?_
      obtain ⟨ρ, hw, hE, o21⟩ := hΦ
      exact ⟨_, hw, hE, ex_ <| an_ rfl <| o21⟩
  intro ρ w a hw hG hf hd
  obtain ⟨o1, o2, o3, o11, o14, o15⟩ := hG
  obtain ⟨_, hf, rfl⟩ := got (hd 0 (by decide)) hf
  obtain ⟨_, hf, ⟨v21, rfl, o21⟩⟩ := got (hd 14 (by decide)) hf
  obtain ⟨hc26, hF⟩ := of_guard hF
  refine sx_ hf (r_append Try.underlying26 el78 hw (by decide) o11 o21.ro hc26 hf rfl rfl) fun a va27 w hf hΦ => ?_
  obtain ⟨ρ, hw, hA, o11⟩ := hΦ
  replace o1 := o1.adv hA (by decide)
  replace o2 := o2.adv hA (by decide)
  replace o3 := o3.adv hA (by decide)
  replace o14 := o14.adv hA (by decide)
  replace o15 := o15.adv hA (by decide)
  replace o21 := o21.adv hA (by decide)
  refine s_ hf (r_assign hf rfl) fun a hf => ?_
  refine c_nt <| c_seq ?_
  obtain ⟨x28, hx29, hF⟩ := of_bind hF
  replace hf : Fr 99 a [(3, .pointer (some ((⟨g1, 0, none⟩ : Addr).add 0))), (6, .pointer (some ((⟨g2, 0, none⟩ : Addr).add 0))), (9, va27)] := hf.sub ⟨rfl, rfl, rfl, trivial⟩
  refine c_stage 3 [2] mixed (by kernel_rfl) (by kernel_rfl) (fun c ρ w => Va ρ w 1 g1 28 ([vI a0.p, vI a0.n, vI a0.m, vI a0.k, va0]) ∧ Va ρ w 2 g2 28 ([vI 0, vI 0, vI 0, vI 0, (.slice none 0 0)]) ∧ O78 ρ w w0 3 (.slice none 0 0) ([] : List Prod) ∧ (c ≤ 0 → O78 ρ w w0 11 va27 (((x9.set a1.toNat (x17, (gl zProd x9 a1).2.1, (gl zProd x9 a1).2.2)).set a2.toNat ((gl zProd x9 a2).1, (gl zProd x9 a1).2.1, x20)) ++ [((gl zProd x9 a2).1, x24, (gl zProd x9 a2).2.2)]))) ?_ [fun c ρ w v => .agg ([vI a0.p, vI a0.n, vI a0.m, vI a0.k, va0]).toArray = v, fun c ρ w v => va27 = v, fun c ρ w v => ∃ u30, u30 = v ∧ O78 ρ w w0 11 u30 x28] ?_ hw ⟨o1, o2, o3, (fun _ => o11)⟩ hf ?_ ?_
  · intro c ρ w ρ' w' hE hG
    obtain ⟨o1, o2, o3, o11x⟩ := hG
    exact ⟨o1.ext hE, o2.ext hE, o3.ext hE, (fun h => (o11x h).ext hE)⟩
  · exact LastsS.cons (fun _ _ _ _ _ _ _ h => h) <| LastsS.cons (fun _ _ _ _ _ _ _ h => h) <| LastsS.cons (fun c _ _ _ _ _ hE h => by obtain ⟨u30, h, o11⟩ := h; exact ⟨_, h, o11.ext hE⟩) <| LastsS.nil
  · refine StepsS.float rfl ?_ <| StepsS.float rfl ?_ <| StepsS.main 0 rfl rfl ?_ <| StepsS.nil
    · intro c ρ w a hs hw hG hf hd K hK
      obtain ⟨o1, o2, o3, o11x⟩ := hG
      exact dv_ hK hw (wn rfl) (r_load_agg ty28 hf rfl o1.cl rfl) rfl
    · intro c ρ w a hs hw hG hf hd K hK
      obtain ⟨o1, o2, o3, o11x⟩ := hG
      have o11 := o11x (hs 0 (by decide) (by kernel_rfl))
      exact dv_ hK hw (wn rfl) (r_move hf rfl) rfl
    · intro ρ w a S hw hG hf hS hdep hSi K hK
      obtain ⟨o1, o2, o3, o11x⟩ := hG
      have hfL := hf
      have o11 := o11x (by decide)
      obtain ⟨_, ht1, rfl⟩ := hS 1 (by decide) (hdep 1 (by kernel_rfl)) (by kernel_rfl)
      replace hf := hf.more ht1
      refine m_call (ms := [2]) (Γ := fun c ρ w => Va ρ w 1 g1 28 ([vI a0.p, vI a0.n, vI a0.m, vI a0.k, va0]) ∧ Va ρ w 2 g2 28 ([vI 0, vI 0, vI 0, vI 0, (.slice none 0 0)]) ∧ O78 ρ w w0 3 (.slice none 0 0) ([] : List Prod) ∧ (c ≤ 0 → O78 ρ w w0 11 va27 (((x9.set a1.toNat (x17, (gl zProd x9 a1).2.1, (gl zProd x9 a1).2.2)).set a2.toNat ((gl zProd x9 a2).1, (gl zProd x9 a1).2.1, x20)) ++ [((gl zProd x9 a2).1, x24, (gl zProd x9 a2).2.2)]))) (Rl := [fun c ρ w v => .agg ([vI a0.p, vI a0.n, vI a0.m, vI a0.k, va0]).toArray = v, fun c ρ w v => va27 = v, fun c ρ w v => ∃ u30, u30 = v ∧ O78 ρ w w0 11 u30 x28]) hfL hS (by decide) rfl (by kernel_rfl) (by kernel_rfl) (wn rfl) rfl (r_fn en79 hf rfl) (impl_kept_ok (by decide) hw o11 hx29) (fun v w' hΦ => ?_) hK
      obtain ⟨ρ, hw, hA, hΦ⟩ := hΦ
      obtain ⟨u30, rfl, o11⟩ := hΦ
      replace o1 := o1.adv hA (by decide)
      replace o2 := o2.adv hA (by decide)
      replace o3 := o3.adv hA (by decide)
      refine ⟨_, hw, ⟨o1, o2, o3, (fun h => absurd h (by decide))⟩, ?_, ?_⟩
      · exact PassL.cons (fun h => h) <| PassL.cons (fun h => h) <| PassL.here <| PassL.nil
      · exact ⟨_, rfl, o11⟩
  intro ρ w a hw hG hf hd
  obtain ⟨o1, o2, o3, o11x⟩ := hG
  obtain ⟨_, hf, rfl⟩ := got (hd 0 (by decide) (by kernel_rfl)) hf
  obtain ⟨_, hf, ⟨u30, rfl, o11⟩⟩ := got (hd 2 (by decide) (by kernel_rfl)) hf
  obtain ⟨x31, hx32, hF⟩ := of_bind hF
  refine st_mfn hf rfl rfl (by decide) (r_fn en78 hf rfl) (impl_with_ok (a0 := a0) (by decide) hw h0 o11 hx32) fun a v w ρ hf hw hA hΦ => ?_
  obtain ⟨u33, rfl, o11⟩ := hΦ
  replace o1 := o1.adv hA (by decide)
  replace o2 := o2.adv hA (by decide)
  replace o3 := o3.adv hA (by decide)
  refine sk_ hf (r_store_w (cs' := [vI x31.p, vI x31.n, vI x31.m, vI x31.k, u33]) hw o2 (by decide) ty28 rfl rfl (one_sch o11.ro.one) hf rfl rfl rfl) fun a w hf hΦ => ?_
  obtain ⟨hw, hA, o2⟩ := hΦ
  replace o1 := o1.adv hA (by decide)
  replace o3 := o3.adv hA (by decide)
  replace o11 := o11.adv hA (by decide)
  refine s_ hf (r_assign hf rfl) fun a hf => ?_
  refine c_nt <| c_retc ?_
  obtain rfl := Option.some.inj hF
  refine c_ret hf (res_ct Try.results23 ty28 hf rfl o2.cl rfl rfl) ?_
  exact ⟨_, rfl, hw.below, ⟨_, rfl, o11.out⟩⟩
/-! f84 -/
noncomputable def spec_l03Factor (a0 : Prod) (a1 : Int) : Option Form :=
  if (decide (a1 = 0)) = true then (some (a0.1)) else (if (decide (a1 = 1)) = true then (some (a0.2.1)) else (some (a0.2.2)))
theorem spec_l03Factor_ok {w0 : World} {a0 : Prod} {a1 : Int}   {r : Form} (hF : spec_l03Factor a0 a1 = some r) :
    Calls Try.prog 84 [.agg (cProd.enc a0).toArray, vI a1].toArray w0 fun e w => ∃ v, e = .returned v ∧ Below w0.heap.size w0 w ∧ .agg (cForm.enc r).toArray = v := by
  refine calls_of (k := 16) Try.func84 rfl rfl (Nat.le_of_ble_eq_true rfl) fun a hf => ?_
  replace hf : Fr 16 a [(0, .agg (cProd.enc a0).toArray), (1, vI a1)] := hf
  refine c_start fun w ρ hw => ?_
  unfold spec_l03Factor at hF
  refine c_seq <| c_region ?_
  refine sx_ hf (r_box (cs := cProd.enc a0) 1 hw hf rfl rfl) fun a v w hf hΦ => ?_
  obtain ⟨g1, ρ, rfl, hw, hE, o1⟩ := hΦ
  refine sx_ hf (r_alloc (cs := cForm.enc zForm) 2 ze39 rfl hw) fun a v w hf hΦ => ?_
  obtain ⟨g2, ρ, rfl, hw, hE, o2⟩ := hΦ
  replace o1 := o1.ext hE
  refine c_nt <| c_seq <| c_seq <| c_region ?_
  refine s_ hf (r_move hf rfl) fun a hf => ?_
  refine c_nt <| c_block <| c_seq <| c_region ?_
  refine s_ hf (r_eql hf rfl rfl) fun a hf => ?_
  refine s_ hf (r_assign hf rfl) fun a hf => ?_
  refine c_nt ?_
  rcases of_ite hF with ⟨hb1, hF⟩ | ⟨hb1, hF⟩
  · refine c_ift hf rfl hb1 <| c_seq <| c_region ?_
    refine s_ hf (r_fa fa78_0 hf rfl) fun a hf => ?_
    refine s_ hf (r_load_agg ty39 hf rfl (o1.cl.lens lProd_0) (cForm.len _)) fun a hf => ?_
    refine sk_ hf (r_store_w (cs' := cForm.enc a0.1) hw o2 (by decide) ty39 (cForm.len _) (cForm.len _) (cForm.one _) hf rfl rfl rfl) fun a w hf hΦ => ?_
    obtain ⟨hw, hA, o2⟩ := hΦ
    replace o1 := o1.adv hA (by decide)
    refine c_nt <| c_retc ?_
    obtain rfl := Option.some.inj hF
    refine r_block <| r_then <| c_ret hf (res_cell Try.results84 ty39 hf rfl o2.cl (cForm.len _)) ?_
    exact ⟨_, rfl, hw.below, rfl⟩
  refine c_iff hf rfl hb1 <| c_seq <| c_region ?_
  refine s_ hf (r_eql hf rfl rfl) fun a hf => ?_
  refine s_ hf (r_assign hf rfl) fun a hf => ?_
  refine c_nt ?_
  rcases of_ite hF with ⟨hb2, hF⟩ | ⟨hb2, hF⟩
  · refine c_ift hf rfl hb2 <| c_seq <| c_region ?_
    refine s_ hf (r_fa fa78_1 hf rfl) fun a hf => ?_
    refine s_ hf (r_load_agg ty39 hf rfl (o1.cl.lens lProd_1) (cForm.len _)) fun a hf => ?_
    refine sk_ hf (r_store_w (cs' := cForm.enc a0.2.1) hw o2 (by decide) ty39 (cForm.len _) (cForm.len _) (cForm.one _) hf rfl rfl rfl) fun a w hf hΦ => ?_
    obtain ⟨hw, hA, o2⟩ := hΦ
    replace o1 := o1.adv hA (by decide)
    refine c_nt <| c_retc ?_
    obtain rfl := Option.some.inj hF
    refine r_block <| r_then <| c_ret hf (res_cell Try.results84 ty39 hf rfl o2.cl (cForm.len _)) ?_
    exact ⟨_, rfl, hw.below, rfl⟩
  refine c_iff hf rfl hb2 <| c_skip <| n_block <| n_then <| c_seq <| c_region ?_
  refine s_ hf (r_fa fa78_2 hf rfl) fun a hf => ?_
  refine s_ hf (r_load_agg ty39 hf rfl (o1.cl.lens lProd_2) (cForm.len _)) fun a hf => ?_
  refine sk_ hf (r_store_w (cs' := cForm.enc a0.2.2) hw o2 (by decide) ty39 (cForm.len _) (cForm.len _) (cForm.one _) hf rfl rfl rfl) fun a w hf hΦ => ?_
  obtain ⟨hw, hA, o2⟩ := hΦ
  replace o1 := o1.adv hA (by decide)
  refine c_nt <| c_retc ?_
  obtain rfl := Option.some.inj hF
  refine c_ret hf (res_cell Try.results84 ty39 hf rfl o2.cl (cForm.len _)) ?_
  exact ⟨_, rfl, hw.below, rfl⟩
/-! f89 -/
noncomputable def spec_l03Flip (a0 : Sch) (a1 : Int) (a2 : Int) (a3 : Int) (a4 : Int) : Option Sch :=
  if (([] : List Prod).length + a0.ps.length) * 27 ≤ 140737488355328 then (if 0 ≤ a1 ∧ a1 < ((([] : List Prod) ++ a0.ps).length : Int) then (if 0 ≤ a2 ∧ a2 < ((([] : List Prod) ++ a0.ps).length : Int) then ((spec_l03Factor (gl zProd (([] : List Prod) ++ a0.ps) a1) ((w64 (a3 + 1)).tmod 3)).bind fun x7 => (spec_l03Factor (gl zProd (([] : List Prod) ++ a0.ps) a2) ((w64 (a3 + 1)).tmod 3)).bind fun x9 => (spec_l01Add a0.p x7 x9 a4).bind fun x11 => (spec_l03With (gl zProd (([] : List Prod) ++ a0.ps) a1) ((w64 (a3 + 1)).tmod 3) x11).bind fun x13 => (spec_l03Factor (gl zProd (([] : List Prod) ++ a0.ps) a2) ((w64 (a3 + 2)).tmod 3)).bind fun x16 => (spec_l03Factor (gl zProd (([] : List Prod) ++ a0.ps) a1) ((w64 (a3 + 2)).tmod 3)).bind fun x18 => (spec_l01Add a0.p x16 x18 (w64 (0 - a4))).bind fun x20 => (spec_l03With (gl zProd (([] : List Prod) ++ a0.ps) a2) ((w64 (a3 + 2)).tmod 3) x20).bind fun x22 => if 0 ≤ a2 ∧ a2 < (((([] : List Prod) ++ a0.ps).set a1.toNat x13).length : Int) then ((spec_l03Told a0 (((([] : List Prod) ++ a0.ps).set a1.toNat x13).set a2.toNat x22)).bind fun x26 => some (x26)) else none) else none) else none) else none
theorem spec_l03Flip_ok {w0 : World} {a0 : Sch} {a1 : Int} {a2 : Int} {a3 : Int} {a4 : Int} {va0 : Value} (h0 : Ro (kf cProd) w0 va0 a0.ps) {r : Sch} (hF : spec_l03Flip a0 a1 a2 a3 a4 = some r) :
    Calls Try.prog 89 [.agg ([vI a0.p, vI a0.n, vI a0.m, vI a0.k, va0]).toArray, vI a1, vI a2, vI a3, vI a4].toArray w0 fun e w => ∃ v, e = .returned v ∧ Below w0.heap.size w0 w ∧ ∃ u0, .agg [.int .i64 r.p, .int .i64 r.n, .int .i64 r.m, .int .i64 r.k, u0].toArray = v ∧ Fresh (kf cProd) 78 w0 w u0 r.ps := by
  refine calls_of (k := 70) Try.func89 rfl rfl (Nat.le_of_ble_eq_true rfl) fun a hf => ?_
  replace hf : Fr 70 a [(0, .agg ([vI a0.p, vI a0.n, vI a0.m, vI a0.k, va0]).toArray), (1, vI a1), (2, vI a2), (3, vI a3), (4, vI a4)] := hf
  refine c_start fun w ρ hw => ?_
  unfold spec_l03Flip at hF
  refine c_seq <| c_region ?_
  refine sx_ hf (r_box (cs := [vI a0.p, vI a0.n, vI a0.m, vI a0.k, va0]) 1 hw hf rfl rfl) fun a v w hf hΦ => ?_
  obtain ⟨g1, ρ, rfl, hw, hE, o1⟩ := hΦ
  have o3 : Ow (kf cProd) 78 ρ w w0.heap.size 3 (.slice none 0 0) [] := Ow.nil _ _ _ _ _ _
  refine sx_ hf (r_alloc (cs := [vI 0, vI 0, vI 0, vI 0, (.slice none 0 0)]) 2 ze28 rfl hw) fun a v w hf hΦ => ?_
  obtain ⟨g2, ρ, rfl, hw, hE, o2⟩ := hΦ
  replace o1 := o1.ext hE
  replace o3 := o3.ext hE
  refine c_nt <| c_seq <| c_region ?_
  refine sx_ hf (r_lit (d := cProd) (xs := ([] : List Prod)) (vs := []) 4 Try.underlying26 el78 (Nat.le_of_ble_eq_true rfl) (Nat.le_of_ble_eq_true rfl) hw hf rfl rfl rfl) fun a v4 w hf hΦ => ?_
  obtain ⟨ρ, hw, hE, o4⟩ := hΦ
  replace o1 := o1.ext hE
  replace o3 := o3.ext hE
  replace o2 := o2.ext hE
  refine s_ hf (r_fa fa28_4 hf rfl) fun a hf => ?_
  refine s_ hf (r_load_cell ty26 hf rfl (o1.cl.at_ 4 _ rfl)) fun a hf => ?_
  obtain ⟨hc1, hF⟩ := of_guard hF
  refine sx_ hf (r_append Try.underlying26 el78 hw (by decide) o4 (h0.now hw) hc1 hf rfl rfl) fun a va2 w hf hΦ => ?_
  obtain ⟨ρ, hw, hA, o4⟩ := hΦ
  replace o1 := o1.adv hA (by decide)
  replace o3 := o3.adv hA (by decide)
  replace o2 := o2.adv hA (by decide)
  refine s_ hf (r_assign hf rfl) fun a hf => ?_
  refine c_nt <| c_seq <| c_region ?_
  refine s_ hf (r_move hf rfl) fun a hf => ?_
  refine s_ hf (r_add hf rfl rfl) fun a hf => ?_
  refine s_ hf (r_rem hf rfl rfl (by decide)) fun a hf => ?_
  refine s_ hf (r_move hf rfl) fun a hf => ?_
  refine s_ hf (r_add hf rfl rfl) fun a hf => ?_
  refine s_ hf (r_rem hf rfl rfl (by decide)) fun a hf => ?_
  refine s_ hf (r_assign hf rfl) fun a hf => ?_
  refine s_ hf (r_assign hf rfl) fun a hf => ?_
  refine c_nt <| c_seq ?_
  obtain ⟨hc3, hF⟩ := of_guard hF
  obtain ⟨hc5, hF⟩ := of_guard hF
  replace hf : Fr 70 a [(1, vI a1), (2, vI a2), (4, vI a4), (5, .pointer (some ((⟨g1, 0, none⟩ : Addr).add 0))), (10, .pointer (some ((⟨g2, 0, none⟩ : Addr).add 0))), (11, va2), (12, vI ((w64 (a3 + 1)).tmod 3)), (13, vI ((w64 (a3 + 2)).tmod 3))] := hf.sub ⟨rfl, rfl, rfl, rfl, rfl, rfl, rfl, rfl, trivial⟩
  refine c_stage 11 [10] mixed (by kernel_rfl) (by kernel_rfl) (fun c ρ w => Va ρ w 1 g1 28 ([vI a0.p, vI a0.n, vI a0.m, vI a0.k, va0]) ∧ Va ρ w 2 g2 28 ([vI 0, vI 0, vI 0, vI 0, (.slice none 0 0)]) ∧ O78 ρ w w0 3 (.slice none 0 0) ([] : List Prod) ∧ O78 ρ w w0 4 va2 (([] : List Prod) ++ a0.ps)) ?_ [fun c ρ w v => va2 = v, fun c ρ w v => vI a1 = v, fun c ρ w v => ∃ ad4, .pointer (some (ad4.add (a1.toNat * 27))) = v ∧ Ce ρ w 4 va2 ((([] : List Prod) ++ a0.ps).length) ad4 (a1.toNat * 27) (cProd.enc (gl zProd (([] : List Prod) ++ a0.ps) a1)), fun c ρ w v => .agg (cProd.enc (gl zProd (([] : List Prod) ++ a0.ps) a1)).toArray = v, fun c ρ w v => va2 = v, fun c ρ w v => vI a2 = v, fun c ρ w v => ∃ ad6, .pointer (some (ad6.add (a2.toNat * 27))) = v ∧ Ce ρ w 4 va2 ((([] : List Prod) ++ a0.ps).length) ad6 (a2.toNat * 27) (cProd.enc (gl zProd (([] : List Prod) ++ a0.ps) a2)), fun c ρ w v => .agg (cProd.enc (gl zProd (([] : List Prod) ++ a0.ps) a2)).toArray = v, fun c ρ w v => ∃ g7, .pointer (some ((⟨g7, 0, none⟩ : Addr).add 0)) = v ∧ (c ≤ 0 → Va ρ w 7 g7 78 (cProd.enc zProd)) ∧ (0 < c → Va ρ w 7 g7 78 (cProd.enc (gl zProd (([] : List Prod) ++ a0.ps) a1))), fun c ρ w v => ∃ g8, .pointer (some ((⟨g8, 0, none⟩ : Addr).add 0)) = v ∧ Va ρ w 8 g8 78 (cProd.enc zProd), fun _ _ _ _ => True] ?_ hw ⟨o1, o2, o3, o4⟩ hf ?_ ?_
  · intro c ρ w ρ' w' hE hG
    obtain ⟨o1, o2, o3, o4⟩ := hG
    exact ⟨o1.ext hE, o2.ext hE, o3.ext hE, o4.ext hE⟩
  · exact LastsS.cons (fun _ _ _ _ _ _ _ h => h) <| LastsS.cons (fun _ _ _ _ _ _ _ h => h) <| LastsS.cons (fun c _ _ _ _ _ hE h => by obtain ⟨ad4, h, hl4⟩ := h; exact ⟨_, h, hl4.ext hE⟩) <| LastsS.cons (fun _ _ _ _ _ _ _ h => h) <| LastsS.cons (fun _ _ _ _ _ _ _ h => h) <| LastsS.cons (fun _ _ _ _ _ _ _ h => h) <| LastsS.cons (fun c _ _ _ _ _ hE h => by obtain ⟨ad6, h, hl6⟩ := h; exact ⟨_, h, hl6.ext hE⟩) <| LastsS.cons (fun _ _ _ _ _ _ _ h => h) <| LastsS.cons (fun c _ _ _ _ _ hE h => by obtain ⟨g7, h, hx, hy⟩ := h; exact ⟨_, h, fun h => (hx h).ext hE, (fun h => by obtain o7 := hy h; exact o7.ext hE)⟩) <| LastsS.cons (fun c _ _ _ _ _ hE h => by obtain ⟨g8, h, o8⟩ := h; exact ⟨_, h, o8.ext hE⟩) <| LastsS.cons (fun _ _ _ _ _ _ _ h => h) <| LastsS.nil
  · refine StepsS.float rfl ?_ <| StepsS.float rfl ?_ <| StepsS.float rfl ?_ <| StepsS.float rfl ?_ <| StepsS.float rfl ?_ <| StepsS.float rfl ?_ <| StepsS.float rfl ?_ <| StepsS.float rfl ?_ <| StepsS.float rfl ?_ <| StepsS.float rfl ?_ <| StepsS.main 0 rfl rfl ?_ <| StepsS.nil
    · intro c ρ w a hs hw hG hf hd K hK
      obtain ⟨o1, o2, o3, o4⟩ := hG
      exact dv_ hK hw (wn rfl) (r_move hf rfl) rfl
    · intro c ρ w a hs hw hG hf hd K hK
      obtain ⟨o1, o2, o3, o4⟩ := hG
      exact dv_ hK hw (wn rfl) (r_move hf rfl) rfl
    · intro c ρ w a hs hw hG hf hd K hK
      obtain ⟨o1, o2, o3, o4⟩ := hG
      obtain ⟨_, ht0, rfl⟩ := hd 0 (by kernel_rfl) (by kernel_rfl)
      replace hf := hf.more ht0
      obtain ⟨_, ht1, rfl⟩ := hd 1 (by kernel_rfl) (by kernel_rfl)
      replace hf := hf.more ht1
      obtain ⟨ad4, hl4⟩ := Ow.ce (d := cProd) o4 zProd hc3.1 hc3.2
      exact dv_ hK hw (wn rfl) (r_idx Try.underlying26 sz78 hf rfl hl4.at_ rfl hc3.1 hc3.2) (ex_ <| an_ rfl <| hl4)
    · intro c ρ w a hs hw hG hf hd K hK
      obtain ⟨o1, o2, o3, o4⟩ := hG
      obtain ⟨_, ht2, ⟨ad4, rfl, hl4⟩⟩ := hd 2 (by kernel_rfl) (by kernel_rfl)
      replace hf := hf.more ht2
      exact dv_ hK hw (wn rfl) (r_load_agg ty78 hf rfl hl4.co.cl (cProd.len _)) rfl
    · intro c ρ w a hs hw hG hf hd K hK
      obtain ⟨o1, o2, o3, o4⟩ := hG
      exact dv_ hK hw (wn rfl) (r_move hf rfl) rfl
    · intro c ρ w a hs hw hG hf hd K hK
      obtain ⟨o1, o2, o3, o4⟩ := hG
      exact dv_ hK hw (wn rfl) (r_move hf rfl) rfl
    · intro c ρ w a hs hw hG hf hd K hK
      obtain ⟨o1, o2, o3, o4⟩ := hG
      obtain ⟨_, ht4, rfl⟩ := hd 4 (by kernel_rfl) (by kernel_rfl)
      replace hf := hf.more ht4
      obtain ⟨_, ht5, rfl⟩ := hd 5 (by kernel_rfl) (by kernel_rfl)
      replace hf := hf.more ht5
      obtain ⟨ad6, hl6⟩ := Ow.ce (d := cProd) o4 zProd hc5.1 hc5.2
      exact dv_ hK hw (wn rfl) (r_idx Try.underlying26 sz78 hf rfl hl6.at_ rfl hc5.1 hc5.2) (ex_ <| an_ rfl <| hl6)
    · intro c ρ w a hs hw hG hf hd K hK
      obtain ⟨o1, o2, o3, o4⟩ := hG
      obtain ⟨_, ht6, ⟨ad6, rfl, hl6⟩⟩ := hd 6 (by kernel_rfl) (by kernel_rfl)
      replace hf := hf.more ht6
      exact dv_ hK hw (wn rfl) (r_load_agg ty78 hf rfl hl6.co.cl (cProd.len _)) rfl
    · intro c ρ w a hs hw hG hf hd K hK
      obtain ⟨o1, o2, o3, o4⟩ := hG
      refine dx_ hK hw (wn rfl) (r_alloc (cs := cProd.enc zProd) 7 ze78 rfl hw) fun v w' hΦ => ?_
      obtain ⟨g7, ρ, rfl, hw, hE, o7⟩ := hΦ
      exact ⟨_, hw, hE, ex_ <| an_ rfl <| an_ (fun _ => o7) <| fun hc => absurd (hs 0 (by decide) (by kernel_rfl)) (Nat.not_le_of_lt hc)⟩
    · intro c ρ w a hs hw hG hf hd K hK
      obtain ⟨o1, o2, o3, o4⟩ := hG
      refine dx_ hK hw (wn rfl) (r_alloc (cs := cProd.enc zProd) 8 ze78 rfl hw) fun v w' hΦ => ?_
      obtain ⟨g8, ρ, rfl, hw, hE, o8⟩ := hΦ
      exact ⟨_, hw, hE, ex_ <| an_ rfl <| o8⟩
    · intro ρ w a S hw hG hf hS hdep hSi K hK
      obtain ⟨o1, o2, o3, o4⟩ := hG
      have hfL := hf
      obtain ⟨_, ht3, rfl⟩ := hS 3 (by decide) (hdep 3 (by kernel_rfl)) (by kernel_rfl)
      replace hf := hf.more ht3
      obtain ⟨_, ht8, g7, rfl, hx8, hy8⟩ := hS 8 (by decide) (hdep 8 (by kernel_rfl)) (by kernel_rfl)
      have o7 := hx8 (by decide)
      replace hf := hf.more ht8
      refine m_skip (Γ := fun c ρ w => Va ρ w 1 g1 28 ([vI a0.p, vI a0.n, vI a0.m, vI a0.k, va0]) ∧ Va ρ w 2 g2 28 ([vI 0, vI 0, vI 0, vI 0, (.slice none 0 0)]) ∧ O78 ρ w w0 3 (.slice none 0 0) ([] : List Prod) ∧ O78 ρ w w0 4 va2 (([] : List Prod) ++ a0.ps)) (Rl := [fun c ρ w v => va2 = v, fun c ρ w v => vI a1 = v, fun c ρ w v => ∃ ad4, .pointer (some (ad4.add (a1.toNat * 27))) = v ∧ Ce ρ w 4 va2 ((([] : List Prod) ++ a0.ps).length) ad4 (a1.toNat * 27) (cProd.enc (gl zProd (([] : List Prod) ++ a0.ps) a1)), fun c ρ w v => .agg (cProd.enc (gl zProd (([] : List Prod) ++ a0.ps) a1)).toArray = v, fun c ρ w v => va2 = v, fun c ρ w v => vI a2 = v, fun c ρ w v => ∃ ad6, .pointer (some (ad6.add (a2.toNat * 27))) = v ∧ Ce ρ w 4 va2 ((([] : List Prod) ++ a0.ps).length) ad6 (a2.toNat * 27) (cProd.enc (gl zProd (([] : List Prod) ++ a0.ps) a2)), fun c ρ w v => .agg (cProd.enc (gl zProd (([] : List Prod) ++ a0.ps) a2)).toArray = v, fun c ρ w v => ∃ g7, .pointer (some ((⟨g7, 0, none⟩ : Addr).add 0)) = v ∧ (c ≤ 0 → Va ρ w 7 g7 78 (cProd.enc zProd)) ∧ (0 < c → Va ρ w 7 g7 78 (cProd.enc (gl zProd (([] : List Prod) ++ a0.ps) a1))), fun c ρ w v => ∃ g8, .pointer (some ((⟨g8, 0, none⟩ : Addr).add 0)) = v ∧ Va ρ w 8 g8 78 (cProd.enc zProd), fun _ _ _ _ => True]) hfL hS (by kernel_rfl) rfl (wn rfl) (r_store_w (cs' := cProd.enc (gl zProd (([] : List Prod) ++ a0.ps) a1)) hw o7 (by decide) ty78 (cProd.len _) (cProd.len _) (cProd.one _) hf rfl rfl rfl) (fun w' hΦ => ?_) hK
      obtain ⟨hw, hA, o7⟩ := hΦ
      replace o1 := o1.adv hA (by decide)
      replace o2 := o2.adv hA (by decide)
      replace o3 := o3.adv hA (by decide)
      replace o4 := o4.adv hA (by decide)
      refine ⟨_, hw, ⟨o1, o2, o3, o4⟩, ?_⟩
      · exact PassL.cons (fun h => h) <| PassL.cons (fun h => h) <| PassL.cons (fun h => by obtain ⟨_, ht, ad4, h, hl4⟩ := h; exact ⟨_, ht, _, h, hl4.adv hA (by decide)⟩) <| PassL.cons (fun h => h) <| PassL.cons (fun h => h) <| PassL.cons (fun h => h) <| PassL.cons (fun h => by obtain ⟨_, ht, ad6, h, hl6⟩ := h; exact ⟨_, ht, _, h, hl6.adv hA (by decide)⟩) <| PassL.cons (fun h => h) <| PassL.cons (fun _ => ⟨_, ht8, _, rfl, fun h => absurd h (by decide), fun _ => o7⟩) <| PassL.cons (fun h => by obtain ⟨_, ht, g8, h, o8⟩ := h; exact ⟨_, ht, _, h, o8.adv hA (by decide)⟩) <| PassL.here <| PassL.nil
  intro ρ w a hw hG hf hd
  obtain ⟨o1, o2, o3, o4⟩ := hG
  obtain ⟨_, hf, rfl⟩ := got (hd 7 (by decide) (by kernel_rfl)) hf
  obtain ⟨_, ht, g7, rfl, hx, hy⟩ := hd 8 (by decide) (by kernel_rfl)
  obtain o7 := hy (by decide)
  replace hf := hf.more ht
  obtain ⟨_, hf, ⟨g8, rfl, o8⟩⟩ := got (hd 9 (by decide) (by kernel_rfl)) hf
  refine sk_ hf (r_store_w (cs' := cProd.enc (gl zProd (([] : List Prod) ++ a0.ps) a2)) hw o8 (by decide) ty78 (cProd.len _) (cProd.len _) (cProd.one _) hf rfl rfl rfl) fun a w hf hΦ => ?_
  obtain ⟨hw, hA, o8⟩ := hΦ
  replace o1 := o1.adv hA (by decide)
  replace o2 := o2.adv hA (by decide)
  replace o3 := o3.adv hA (by decide)
  replace o4 := o4.adv hA (by decide)
  replace o7 := o7.adv hA (by decide)
  refine c_nt <| c_seq ?_
  obtain ⟨x7, hx8, hF⟩ := of_bind hF
  obtain ⟨x9, hx10, hF⟩ := of_bind hF
  obtain ⟨x11, hx12, hF⟩ := of_bind hF
  obtain ⟨x13, hx14, hF⟩ := of_bind hF
  replace hf : Fr 70 a [(1, vI a1), (2, vI a2), (4, vI a4), (5, .pointer (some ((⟨g1, 0, none⟩ : Addr).add 0))), (10, .pointer (some ((⟨g2, 0, none⟩ : Addr).add 0))), (11, va2), (12, vI ((w64 (a3 + 1)).tmod 3)), (13, vI ((w64 (a3 + 2)).tmod 3)), (14, .pointer (some ((⟨g7, 0, none⟩ : Addr).add 0))), (15, .pointer (some ((⟨g8, 0, none⟩ : Addr).add 0)))] := hf.sub ⟨rfl, rfl, rfl, rfl, rfl, rfl, rfl, rfl, rfl, rfl, trivial⟩
  refine c_drawL (h := 15) mixed (by kernel_rfl) (by kernel_rfl) (fun ρ w => Va ρ w 1 g1 28 ([vI a0.p, vI a0.n, vI a0.m, vI a0.k, va0]) ∧ Va ρ w 2 g2 28 ([vI 0, vI 0, vI 0, vI 0, (.slice none 0 0)]) ∧ O78 ρ w w0 3 (.slice none 0 0) ([] : List Prod) ∧ O78 ρ w w0 4 va2 (([] : List Prod) ++ a0.ps) ∧ Va ρ w 7 g7 78 (cProd.enc (gl zProd (([] : List Prod) ++ a0.ps) a1)) ∧ Va ρ w 8 g8 78 (cProd.enc (gl zProd (([] : List Prod) ++ a0.ps) a2))) ?_ [fun ρ w v => va2 = v, fun ρ w v => vI a1 = v, fun ρ w v => .agg (cProd.enc (gl zProd (([] : List Prod) ++ a0.ps) a1)).toArray = v, fun ρ w v => vI ((w64 (a3 + 1)).tmod 3) = v, fun ρ w v => .pointer (some ((⟨g1, 0, none⟩ : Addr).add (0 + 0))) = v, fun ρ w v => vI a0.p = v, fun ρ w v => .agg (cProd.enc (gl zProd (([] : List Prod) ++ a0.ps) a1)).toArray = v, fun ρ w v => vI ((w64 (a3 + 1)).tmod 3) = v, fun ρ w v => .agg (cForm.enc x7).toArray = v, fun ρ w v => .agg (cProd.enc (gl zProd (([] : List Prod) ++ a0.ps) a2)).toArray = v, fun ρ w v => vI ((w64 (a3 + 1)).tmod 3) = v, fun ρ w v => .agg (cForm.enc x9).toArray = v, fun ρ w v => vI a4 = v, fun ρ w v => .agg (cForm.enc x11).toArray = v, fun ρ w v => .agg (cProd.enc x13).toArray = v] ?_ hw ⟨o1, o2, o3, o4, o7, o8⟩ hf ?_ ?_
  · intro ρ w ρ' w' hE hG
    obtain ⟨o1, o2, o3, o4, o7, o8⟩ := hG
    exact ⟨o1.ext hE, o2.ext hE, o3.ext hE, o4.ext hE, o7.ext hE, o8.ext hE⟩
  · exact LastsL.cons (fun _ _ _ _ _ _ h => h) <| LastsL.cons (fun _ _ _ _ _ _ h => h) <| LastsL.cons (fun _ _ _ _ _ _ h => h) <| LastsL.cons (fun _ _ _ _ _ _ h => h) <| LastsL.cons (fun _ _ _ _ _ _ h => h) <| LastsL.cons (fun _ _ _ _ _ _ h => h) <| LastsL.cons (fun _ _ _ _ _ _ h => h) <| LastsL.cons (fun _ _ _ _ _ _ h => h) <| LastsL.cons (fun _ _ _ _ _ _ h => h) <| LastsL.cons (fun _ _ _ _ _ _ h => h) <| LastsL.cons (fun _ _ _ _ _ _ h => h) <| LastsL.cons (fun _ _ _ _ _ _ h => h) <| LastsL.cons (fun _ _ _ _ _ _ h => h) <| LastsL.cons (fun _ _ _ _ _ _ h => h) <| LastsL.cons (fun _ _ _ _ _ _ h => h) <| LastsL.nil
  · refine StepsB.cons ?_ <| StepsB.cons ?_ <| StepsB.cons ?_ <| StepsB.cons ?_ <| StepsB.cons ?_ <| StepsB.cons ?_ <| StepsB.cons ?_ <| StepsB.cons ?_ <| StepsB.cons ?_ <| StepsB.cons ?_ <| StepsB.cons ?_ <| StepsB.cons ?_ <| StepsB.cons ?_ <| StepsB.cons ?_ <| StepsB.cons ?_ <| StepsB.nil
    · intro ρ w a hw hG hf hd K hK
      obtain ⟨o1, o2, o3, o4, o7, o8⟩ := hG
      exact dv_ hK hw (wn rfl) (r_move hf rfl) rfl
    · intro ρ w a hw hG hf hd K hK
      obtain ⟨o1, o2, o3, o4, o7, o8⟩ := hG
      exact dv_ hK hw (wn rfl) (r_move hf rfl) rfl
    · intro ρ w a hw hG hf hd K hK
      obtain ⟨o1, o2, o3, o4, o7, o8⟩ := hG
      exact dv_ hK hw (wn rfl) (r_load_agg ty78 hf rfl o7.cl (cProd.len _)) rfl
    · intro ρ w a hw hG hf hd K hK
      obtain ⟨o1, o2, o3, o4, o7, o8⟩ := hG
      exact dv_ hK hw (wn rfl) (r_move hf rfl) rfl
    · intro ρ w a hw hG hf hd K hK
      obtain ⟨o1, o2, o3, o4, o7, o8⟩ := hG
      exact dv_ hK hw (wn rfl) (r_fa fa28_0 hf rfl) rfl
    · intro ρ w a hw hG hf hd K hK
      obtain ⟨o1, o2, o3, o4, o7, o8⟩ := hG
      obtain ⟨_, hf, rfl⟩ := got (hd 4 (by kernel_rfl)) hf
      exact dv_ hK hw (wn rfl) (r_load_cell ty2 hf rfl (o1.cl.at_ 0 _ rfl)) rfl
    · intro ρ w a hw hG hf hd K hK
      obtain ⟨o1, o2, o3, o4, o7, o8⟩ := hG
      exact dv_ hK hw (wn rfl) (r_load_agg ty78 hf rfl o7.cl (cProd.len _)) rfl
    · intro ρ w a hw hG hf hd K hK
      obtain ⟨o1, o2, o3, o4, o7, o8⟩ := hG
      exact dv_ hK hw (wn rfl) (r_move hf rfl) rfl
    · intro ρ w a hw hG hf hd K hK
      obtain ⟨o1, o2, o3, o4, o7, o8⟩ := hG
      obtain ⟨_, hf, rfl⟩ := got (hd 6 (by kernel_rfl)) hf
      obtain ⟨_, hf, rfl⟩ := got (hd 7 (by kernel_rfl)) hf
      refine dc_ hK hw (wn rfl) (r_fn en84 hf rfl) (spec_l03Factor_ok  hx8) fun v w' hΦ => ?_
      obtain ⟨hb, hΦ⟩ := hΦ
      obtain rfl := hΦ
      have hE := Ext.new (ρ := ρ) 9 hb
      exact ⟨_, hw.new 9 hb, hE, rfl⟩
    · intro ρ w a hw hG hf hd K hK
      obtain ⟨o1, o2, o3, o4, o7, o8⟩ := hG
      exact dv_ hK hw (wn rfl) (r_load_agg ty78 hf rfl o8.cl (cProd.len _)) rfl
    · intro ρ w a hw hG hf hd K hK
      obtain ⟨o1, o2, o3, o4, o7, o8⟩ := hG
      exact dv_ hK hw (wn rfl) (r_move hf rfl) rfl
    · intro ρ w a hw hG hf hd K hK
      obtain ⟨o1, o2, o3, o4, o7, o8⟩ := hG
      obtain ⟨_, hf, rfl⟩ := got (hd 9 (by kernel_rfl)) hf
      obtain ⟨_, hf, rfl⟩ := got (hd 10 (by kernel_rfl)) hf
      refine dc_ hK hw (wn rfl) (r_fn en84 hf rfl) (spec_l03Factor_ok  hx10) fun v w' hΦ => ?_
      obtain ⟨hb, hΦ⟩ := hΦ
      obtain rfl := hΦ
      have hE := Ext.new (ρ := ρ) 10 hb
      exact ⟨_, hw.new 10 hb, hE, rfl⟩
    · intro ρ w a hw hG hf hd K hK
      obtain ⟨o1, o2, o3, o4, o7, o8⟩ := hG
      exact dv_ hK hw (wn rfl) (r_move hf rfl) rfl
    · intro ρ w a hw hG hf hd K hK
      obtain ⟨o1, o2, o3, o4, o7, o8⟩ := hG
      obtain ⟨_, hf, rfl⟩ := got (hd 5 (by kernel_rfl)) hf
      obtain ⟨_, hf, rfl⟩ := got (hd 8 (by kernel_rfl)) hf
      obtain ⟨_, hf, rfl⟩ := got (hd 11 (by kernel_rfl)) hf
      obtain ⟨_, hf, rfl⟩ := got (hd 12 (by kernel_rfl)) hf
      refine dc_ hK hw (wn rfl) (r_fn en72 hf rfl) (spec_l01Add_ok  hx12) fun v w' hΦ => ?_
      obtain ⟨hb, hΦ⟩ := hΦ
      obtain rfl := hΦ
      have hE := Ext.new (ρ := ρ) 11 hb
      exact ⟨_, hw.new 11 hb, hE, rfl⟩
    · intro ρ w a hw hG hf hd K hK
      obtain ⟨o1, o2, o3, o4, o7, o8⟩ := hG
      obtain ⟨_, hf, rfl⟩ := got (hd 2 (by kernel_rfl)) hf
      obtain ⟨_, hf, rfl⟩ := got (hd 3 (by kernel_rfl)) hf
      obtain ⟨_, hf, rfl⟩ := got (hd 13 (by kernel_rfl)) hf
      refine dc_ hK hw (wn rfl) (r_fn en71 hf rfl) (spec_l03With_ok  hx14) fun v w' hΦ => ?_
      obtain ⟨hb, hΦ⟩ := hΦ
      obtain rfl := hΦ
      have hE := Ext.new (ρ := ρ) 12 hb
      exact ⟨_, hw.new 12 hb, hE, rfl⟩
  intro ρ w a hw hG hf hd
  obtain ⟨o1, o2, o3, o4, o7, o8⟩ := hG
  obtain ⟨_, hf, rfl⟩ := got (hd 0 (by decide)) hf
  obtain ⟨_, hf, rfl⟩ := got (hd 1 (by decide)) hf
  obtain ⟨_, hf, rfl⟩ := got (hd 14 (by decide)) hf
  obtain ⟨ad15, hl15⟩ := Ow.ce (d := cProd) o4 zProd hc3.1 hc3.2
  refine s_ hf (r_idx Try.underlying26 sz78 hf rfl hl15.at_ rfl hc3.1 hc3.2) fun a hf => ?_
  refine sk_ hf (r_store_ec (b := x13) zProd hw (by decide) o4 hc3.1 hc3.2 (Lens.id _) hl15.at_ ty78 (by first | rfl | exact Nat.add_assoc _ _ _ | (simp only [Nat.add_assoc]; rfl)) hf rfl rfl rfl) fun a w hf hΦ => ?_
  obtain ⟨hw, hA, o4⟩ := hΦ
  replace o1 := o1.adv hA (by decide)
  replace o2 := o2.adv hA (by decide)
  replace o3 := o3.adv hA (by decide)
  replace o7 := o7.adv hA (by decide)
  replace o8 := o8.adv hA (by decide)
  refine c_nt <| c_seq ?_
  obtain ⟨x16, hx17, hF⟩ := of_bind hF
  obtain ⟨x18, hx19, hF⟩ := of_bind hF
  obtain ⟨x20, hx21, hF⟩ := of_bind hF
  obtain ⟨x22, hx23, hF⟩ := of_bind hF
  replace hf : Fr 70 a [(2, vI a2), (4, vI a4), (5, .pointer (some ((⟨g1, 0, none⟩ : Addr).add 0))), (10, .pointer (some ((⟨g2, 0, none⟩ : Addr).add 0))), (11, va2), (13, vI ((w64 (a3 + 2)).tmod 3)), (14, .pointer (some ((⟨g7, 0, none⟩ : Addr).add 0))), (15, .pointer (some ((⟨g8, 0, none⟩ : Addr).add 0)))] := hf.sub ⟨rfl, rfl, rfl, rfl, rfl, rfl, rfl, rfl, trivial⟩
  refine c_drawL (h := 16) mixed (by kernel_rfl) (by kernel_rfl) (fun ρ w => Va ρ w 1 g1 28 ([vI a0.p, vI a0.n, vI a0.m, vI a0.k, va0]) ∧ Va ρ w 2 g2 28 ([vI 0, vI 0, vI 0, vI 0, (.slice none 0 0)]) ∧ O78 ρ w w0 3 (.slice none 0 0) ([] : List Prod) ∧ O78 ρ w w0 4 va2 ((([] : List Prod) ++ a0.ps).set a1.toNat x13) ∧ Va ρ w 7 g7 78 (cProd.enc (gl zProd (([] : List Prod) ++ a0.ps) a1)) ∧ Va ρ w 8 g8 78 (cProd.enc (gl zProd (([] : List Prod) ++ a0.ps) a2))) ?_ [fun ρ w v => va2 = v, fun ρ w v => vI a2 = v, fun ρ w v => .agg (cProd.enc (gl zProd (([] : List Prod) ++ a0.ps) a2)).toArray = v, fun ρ w v => vI ((w64 (a3 + 2)).tmod 3) = v, fun ρ w v => .pointer (some ((⟨g1, 0, none⟩ : Addr).add (0 + 0))) = v, fun ρ w v => vI a0.p = v, fun ρ w v => .agg (cProd.enc (gl zProd (([] : List Prod) ++ a0.ps) a2)).toArray = v, fun ρ w v => vI ((w64 (a3 + 2)).tmod 3) = v, fun ρ w v => .agg (cForm.enc x16).toArray = v, fun ρ w v => .agg (cProd.enc (gl zProd (([] : List Prod) ++ a0.ps) a1)).toArray = v, fun ρ w v => vI ((w64 (a3 + 2)).tmod 3) = v, fun ρ w v => .agg (cForm.enc x18).toArray = v, fun ρ w v => vI a4 = v, fun ρ w v => vI (w64 (0 - a4)) = v, fun ρ w v => .agg (cForm.enc x20).toArray = v, fun ρ w v => .agg (cProd.enc x22).toArray = v] ?_ hw ⟨o1, o2, o3, o4, o7, o8⟩ hf ?_ ?_
  · intro ρ w ρ' w' hE hG
    obtain ⟨o1, o2, o3, o4, o7, o8⟩ := hG
    exact ⟨o1.ext hE, o2.ext hE, o3.ext hE, o4.ext hE, o7.ext hE, o8.ext hE⟩
  · exact LastsL.cons (fun _ _ _ _ _ _ h => h) <| LastsL.cons (fun _ _ _ _ _ _ h => h) <| LastsL.cons (fun _ _ _ _ _ _ h => h) <| LastsL.cons (fun _ _ _ _ _ _ h => h) <| LastsL.cons (fun _ _ _ _ _ _ h => h) <| LastsL.cons (fun _ _ _ _ _ _ h => h) <| LastsL.cons (fun _ _ _ _ _ _ h => h) <| LastsL.cons (fun _ _ _ _ _ _ h => h) <| LastsL.cons (fun _ _ _ _ _ _ h => h) <| LastsL.cons (fun _ _ _ _ _ _ h => h) <| LastsL.cons (fun _ _ _ _ _ _ h => h) <| LastsL.cons (fun _ _ _ _ _ _ h => h) <| LastsL.cons (fun _ _ _ _ _ _ h => h) <| LastsL.cons (fun _ _ _ _ _ _ h => h) <| LastsL.cons (fun _ _ _ _ _ _ h => h) <| LastsL.cons (fun _ _ _ _ _ _ h => h) <| LastsL.nil
  · refine StepsB.cons ?_ <| StepsB.cons ?_ <| StepsB.cons ?_ <| StepsB.cons ?_ <| StepsB.cons ?_ <| StepsB.cons ?_ <| StepsB.cons ?_ <| StepsB.cons ?_ <| StepsB.cons ?_ <| StepsB.cons ?_ <| StepsB.cons ?_ <| StepsB.cons ?_ <| StepsB.cons ?_ <| StepsB.cons ?_ <| StepsB.cons ?_ <| StepsB.cons ?_ <| StepsB.nil
    · intro ρ w a hw hG hf hd K hK
      obtain ⟨o1, o2, o3, o4, o7, o8⟩ := hG
      exact dv_ hK hw (wn rfl) (r_move hf rfl) rfl
    · intro ρ w a hw hG hf hd K hK
      obtain ⟨o1, o2, o3, o4, o7, o8⟩ := hG
      exact dv_ hK hw (wn rfl) (r_move hf rfl) rfl
    · intro ρ w a hw hG hf hd K hK
      obtain ⟨o1, o2, o3, o4, o7, o8⟩ := hG
      exact dv_ hK hw (wn rfl) (r_load_agg ty78 hf rfl o8.cl (cProd.len _)) rfl
    · intro ρ w a hw hG hf hd K hK
      obtain ⟨o1, o2, o3, o4, o7, o8⟩ := hG
      exact dv_ hK hw (wn rfl) (r_move hf rfl) rfl
    · intro ρ w a hw hG hf hd K hK
      obtain ⟨o1, o2, o3, o4, o7, o8⟩ := hG
      exact dv_ hK hw (wn rfl) (r_fa fa28_0 hf rfl) rfl
    · intro ρ w a hw hG hf hd K hK
      obtain ⟨o1, o2, o3, o4, o7, o8⟩ := hG
      obtain ⟨_, hf, rfl⟩ := got (hd 4 (by kernel_rfl)) hf
      exact dv_ hK hw (wn rfl) (r_load_cell ty2 hf rfl (o1.cl.at_ 0 _ rfl)) rfl
    · intro ρ w a hw hG hf hd K hK
      obtain ⟨o1, o2, o3, o4, o7, o8⟩ := hG
      exact dv_ hK hw (wn rfl) (r_load_agg ty78 hf rfl o8.cl (cProd.len _)) rfl
    · intro ρ w a hw hG hf hd K hK
      obtain ⟨o1, o2, o3, o4, o7, o8⟩ := hG
      exact dv_ hK hw (wn rfl) (r_move hf rfl) rfl
    · intro ρ w a hw hG hf hd K hK
      obtain ⟨o1, o2, o3, o4, o7, o8⟩ := hG
      obtain ⟨_, hf, rfl⟩ := got (hd 6 (by kernel_rfl)) hf
      obtain ⟨_, hf, rfl⟩ := got (hd 7 (by kernel_rfl)) hf
      refine dc_ hK hw (wn rfl) (r_fn en84 hf rfl) (spec_l03Factor_ok  hx17) fun v w' hΦ => ?_
      obtain ⟨hb, hΦ⟩ := hΦ
      obtain rfl := hΦ
      have hE := Ext.new (ρ := ρ) 14 hb
      exact ⟨_, hw.new 14 hb, hE, rfl⟩
    · intro ρ w a hw hG hf hd K hK
      obtain ⟨o1, o2, o3, o4, o7, o8⟩ := hG
      exact dv_ hK hw (wn rfl) (r_load_agg ty78 hf rfl o7.cl (cProd.len _)) rfl
    · intro ρ w a hw hG hf hd K hK
      obtain ⟨o1, o2, o3, o4, o7, o8⟩ := hG
      exact dv_ hK hw (wn rfl) (r_move hf rfl) rfl
    · intro ρ w a hw hG hf hd K hK
      obtain ⟨o1, o2, o3, o4, o7, o8⟩ := hG
      obtain ⟨_, hf, rfl⟩ := got (hd 9 (by kernel_rfl)) hf
      obtain ⟨_, hf, rfl⟩ := got (hd 10 (by kernel_rfl)) hf
      refine dc_ hK hw (wn rfl) (r_fn en84 hf rfl) (spec_l03Factor_ok  hx19) fun v w' hΦ => ?_
      obtain ⟨hb, hΦ⟩ := hΦ
      obtain rfl := hΦ
      have hE := Ext.new (ρ := ρ) 15 hb
      exact ⟨_, hw.new 15 hb, hE, rfl⟩
    · intro ρ w a hw hG hf hd K hK
      obtain ⟨o1, o2, o3, o4, o7, o8⟩ := hG
      exact dv_ hK hw (wn rfl) (r_move hf rfl) rfl
    · intro ρ w a hw hG hf hd K hK
      obtain ⟨o1, o2, o3, o4, o7, o8⟩ := hG
      obtain ⟨_, hf, rfl⟩ := got (hd 12 (by kernel_rfl)) hf
      exact dv_ hK hw (wn rfl) (r_neg hf rfl) rfl
    · intro ρ w a hw hG hf hd K hK
      obtain ⟨o1, o2, o3, o4, o7, o8⟩ := hG
      obtain ⟨_, hf, rfl⟩ := got (hd 5 (by kernel_rfl)) hf
      obtain ⟨_, hf, rfl⟩ := got (hd 8 (by kernel_rfl)) hf
      obtain ⟨_, hf, rfl⟩ := got (hd 11 (by kernel_rfl)) hf
      obtain ⟨_, hf, rfl⟩ := got (hd 13 (by kernel_rfl)) hf
      refine dc_ hK hw (wn rfl) (r_fn en72 hf rfl) (spec_l01Add_ok  hx21) fun v w' hΦ => ?_
      obtain ⟨hb, hΦ⟩ := hΦ
      obtain rfl := hΦ
      have hE := Ext.new (ρ := ρ) 16 hb
      exact ⟨_, hw.new 16 hb, hE, rfl⟩
    · intro ρ w a hw hG hf hd K hK
      obtain ⟨o1, o2, o3, o4, o7, o8⟩ := hG
      obtain ⟨_, hf, rfl⟩ := got (hd 2 (by kernel_rfl)) hf
      obtain ⟨_, hf, rfl⟩ := got (hd 3 (by kernel_rfl)) hf
      obtain ⟨_, hf, rfl⟩ := got (hd 14 (by kernel_rfl)) hf
      refine dc_ hK hw (wn rfl) (r_fn en71 hf rfl) (spec_l03With_ok  hx23) fun v w' hΦ => ?_
      obtain ⟨hb, hΦ⟩ := hΦ
      obtain rfl := hΦ
      have hE := Ext.new (ρ := ρ) 17 hb
      exact ⟨_, hw.new 17 hb, hE, rfl⟩
  intro ρ w a hw hG hf hd
  obtain ⟨o1, o2, o3, o4, o7, o8⟩ := hG
  obtain ⟨_, hf, rfl⟩ := got (hd 0 (by decide)) hf
  obtain ⟨_, hf, rfl⟩ := got (hd 1 (by decide)) hf
  obtain ⟨_, hf, rfl⟩ := got (hd 15 (by decide)) hf
  obtain ⟨hc24, hF⟩ := of_guard hF
  obtain ⟨ad25, hl25⟩ := Ow.ce (d := cProd) o4 zProd hc24.1 hc24.2
  refine s_ hf (r_idx Try.underlying26 sz78 hf rfl hl25.at_ rfl hc24.1 hc24.2) fun a hf => ?_
  refine sk_ hf (r_store_ec (b := x22) zProd hw (by decide) o4 hc24.1 hc24.2 (Lens.id _) hl25.at_ ty78 (by first | rfl | exact Nat.add_assoc _ _ _ | (simp only [Nat.add_assoc]; rfl)) hf rfl rfl rfl) fun a w hf hΦ => ?_
  obtain ⟨hw, hA, o4⟩ := hΦ
  replace o1 := o1.adv hA (by decide)
  replace o2 := o2.adv hA (by decide)
  replace o3 := o3.adv hA (by decide)
  replace o7 := o7.adv hA (by decide)
  replace o8 := o8.adv hA (by decide)
  refine c_nt <| c_seq <| c_region ?_
  refine s_ hf (r_load_agg ty28 hf rfl o1.cl rfl) fun a hf => ?_
  refine s_ hf (r_move hf rfl) fun a hf => ?_
  obtain ⟨x26, hx27, hF⟩ := of_bind hF
  refine st_fn 19 hw hf rfl rfl (by decide) (r_fn en73 hf rfl) (spec_l03Told_ok (a0 := a0) (h0.now hw) o4.ro hx27) fun a v w ρ hf hw hE hN hΦ => ?_
  obtain ⟨u28, rfl, hr29⟩ := hΦ
  replace o1 := o1.ext hE
  replace o2 := o2.ext hE
  replace o3 := o3.ext hE
  replace o4 := o4.ext hE
  replace o7 := o7.ext hE
  replace o8 := o8.ext hE
  have o19 := hN hr29
  refine sk_ hf (r_store_w (cs' := [vI x26.p, vI x26.n, vI x26.m, vI x26.k, u28]) hw o2 (by decide) ty28 rfl rfl (one_sch o19.ro.one) hf rfl rfl rfl) fun a w hf hΦ => ?_
  obtain ⟨hw, hA, o2⟩ := hΦ
  replace o1 := o1.adv hA (by decide)
  replace o3 := o3.adv hA (by decide)
  replace o4 := o4.adv hA (by decide)
  replace o7 := o7.adv hA (by decide)
  replace o8 := o8.adv hA (by decide)
  replace o19 := o19.adv hA (by decide)
  refine c_nt <| c_retc ?_
  obtain rfl := Option.some.inj hF
  refine c_ret hf (res_cell Try.results89 ty28 hf rfl o2.cl rfl) ?_
  exact ⟨_, rfl, hw.below, ⟨_, rfl, o19.out⟩⟩
/-! f27 -/
noncomputable def spec_FlipProducts (a0 : Sch) (a1 : Int) (a2 : Int) (a3 : Int) (a4 : Int) : Option (Sch × Int) :=
  (spec_l01Is a0).bind fun x1 => if (!x1) = true then (some (((⟨0, 0, 0, 0, ([] : List Prod)⟩ : Sch), 1))) else (((spec_l03Numbers a0 ([a1, a2])).bind fun x6 => if (!x6) = true then (some true) else ((spec_l01In a3 0 2).bind fun x9 => if (!x9) = true then (some true) else ((spec_l01In a4 1 (w64 (a0.p - 1))).bind fun x12 => some (!x12)))).bind fun (s5 : Bool) => if s5 = true then (some (((⟨0, 0, 0, 0, ([] : List Prod)⟩ : Sch), 2))) else ((if (decide (a1 = a2)) = true then (some true) else (if 0 ≤ a1 ∧ a1 < (a0.ps.length : Int) then ((spec_l03Factor (gl zProd a0.ps a1) a3).bind fun x20 => if 0 ≤ a2 ∧ a2 < (a0.ps.length : Int) then ((spec_l03Factor (gl zProd a0.ps a2) a3).bind fun x24 => some (decide (x20 ≠ x24))) else none) else none)).bind fun (s16 : Bool) => if s16 = true then (some (((⟨0, 0, 0, 0, ([] : List Prod)⟩ : Sch), 5))) else ((spec_l03Flip a0 a1 a2 a3 a4).bind fun x27 => some ((x27, 0)))))
theorem spec_FlipProducts_ok {w0 : World} {a0 : Sch} {a1 : Int} {a2 : Int} {a3 : Int} {a4 : Int} {va0 : Value} (h0 : Ro (kf cProd) w0 va0 a0.ps) {r : Sch × Int} (hF : spec_FlipProducts a0 a1 a2 a3 a4 = some r) :
    Calls Try.prog 27 [.agg ([vI a0.p, vI a0.n, vI a0.m, vI a0.k, va0]).toArray, vI a1, vI a2, vI a3, vI a4].toArray w0 fun e w => ∃ v, e = .returned v ∧ Below w0.heap.size w0 w ∧ ∃ u0, .tuple #[.agg [.int .i64 r.1.p, .int .i64 r.1.n, .int .i64 r.1.m, .int .i64 r.1.k, u0].toArray, .int .i64 r.2] = v ∧ Fresh (kf cProd) 78 w0 w u0 r.1.ps := by
  refine calls_of (k := 66) Try.func27 rfl rfl (Nat.le_of_ble_eq_true rfl) fun a hf => ?_
  replace hf : Fr 66 a [(0, .agg ([vI a0.p, vI a0.n, vI a0.m, vI a0.k, va0]).toArray), (1, vI a1), (2, vI a2), (3, vI a3), (4, vI a4)] := hf
  refine c_start fun w ρ hw => ?_
  unfold spec_FlipProducts at hF
  refine c_seq <| c_region ?_
  refine sx_ hf (r_box (cs := [vI a0.p, vI a0.n, vI a0.m, vI a0.k, va0]) 1 hw hf rfl rfl) fun a v w hf hΦ => ?_
  obtain ⟨g1, ρ, rfl, hw, hE, o1⟩ := hΦ
  have o3 : Ow (kf cProd) 78 ρ w w0.heap.size 3 (.slice none 0 0) [] := Ow.nil _ _ _ _ _ _
  refine sx_ hf (r_alloc (cs := [vI 0, vI 0, vI 0, vI 0, (.slice none 0 0)]) 2 ze28 rfl hw) fun a v w hf hΦ => ?_
  obtain ⟨g2, ρ, rfl, hw, hE, o2⟩ := hΦ
  replace o1 := o1.ext hE
  replace o3 := o3.ext hE
  refine s_ hf (r_assign hf rfl) fun a hf => ?_
  refine c_nt <| c_seq <| c_block <| c_seq <| c_region ?_
  refine s_ hf (r_load_agg ty28 hf rfl o1.cl rfl) fun a hf => ?_
  obtain ⟨x1, hx2, hF⟩ := of_bind hF
  refine st_fn 4 hw hf rfl rfl (by decide) (r_fn en69 hf rfl) (spec_l01Is_ok (a0 := a0) (h0.now hw) hx2) fun a v w ρ hf hw hE hN hΦ => ?_
  obtain rfl := hΦ
  replace o1 := o1.ext hE
  replace o3 := o3.ext hE
  replace o2 := o2.ext hE
  refine s_ hf (r_not hf rfl) fun a hf => ?_
  refine s_ hf (r_assign hf rfl) fun a hf => ?_
  refine c_nt ?_
  rcases of_ite hF with ⟨hb3, hF⟩ | ⟨hb3, hF⟩
  · refine c_ift hf rfl hb3 <| c_seq <| c_region ?_
    have o5 : Ow (kf cProd) 78 ρ w w0.heap.size 5 (.slice none 0 0) [] := Ow.nil _ _ _ _ _ _
    refine s_ hf (r_build_struct (pl := [(0, 1), (1, 1), (2, 1), (3, 1), (4, 1)]) (vs := []) (res := ([vI 0, vI 0, vI 0, vI 0, (.slice none 0 0)]).toArray) Try.underlying28 (by kernel_rfl) ze28 hf rfl rfl rfl) fun a hf => ?_
    refine sk_ hf (r_store_w (cs' := [vI 0, vI 0, vI 0, vI 0, (.slice none 0 0)]) hw o2 (by decide) ty28 rfl rfl (one_sch o5.ro.one) hf rfl rfl rfl) fun a w hf hΦ => ?_
    obtain ⟨hw, hA, o2⟩ := hΦ
    replace o1 := o1.adv hA (by decide)
    replace o3 := o3.adv hA (by decide)
    replace o5 := o5.adv hA (by decide)
    refine s_ hf (r_assign hf rfl) fun a hf => ?_
    refine c_nt <| c_retc ?_
    obtain rfl := Option.some.inj hF
    refine r_block <| r_then <| c_ret hf (res_ct Try.results27 ty28 hf rfl o2.cl rfl rfl) ?_
    exact ⟨_, rfl, hw.below, ⟨_, rfl, o5.out⟩⟩
  refine c_iff hf rfl hb3 <| c_seq ?_
  obtain ⟨s5, hT4, hG4⟩ := of_bind hF
  clear hF
  refine c_meet (fun (s5 : Bool) a w => ∃ ρ, Wd w0 ρ w ∧ Fr 66 a [(1, vI a1), (2, vI a2), (3, vI a3), (4, vI a4), (5, .pointer (some ((⟨g1, 0, none⟩ : Addr).add 0))), (10, .pointer (some ((⟨g2, 0, none⟩ : Addr).add 0))), (17, .bool s5)] ∧ Va ρ w 1 g1 28 ([vI a0.p, vI a0.n, vI a0.m, vI a0.k, va0]) ∧ Va ρ w 2 g2 28 ([vI 0, vI 0, vI 0, vI 0, (.slice none 0 0)]) ∧ O78 ρ w w0 3 (.slice none 0 0) ([] : List Prod)) s5 ?_ ?_
  · have hF := hT4
    refine c_region ?_
    refine s_ hf (r_load_agg ty28 hf rfl o1.cl rfl) fun a hf => ?_
    refine s_ hf (r_move hf rfl) fun a hf => ?_
    refine s_ hf (r_move hf rfl) fun a hf => ?_
    refine sx_ hf (r_lit (d := fI64) (xs := ([a1, a2] : List Int)) (vs := [vI a1, vI a2]) 6 Try.underlying61 el2 (Nat.le_of_ble_eq_true rfl) (Nat.le_of_ble_eq_true rfl) hw hf rfl rfl rfl) fun a v6 w hf hΦ => ?_
    obtain ⟨ρ, hw, hE, o6⟩ := hΦ
    replace o1 := o1.ext hE
    replace o3 := o3.ext hE
    replace o2 := o2.ext hE
    obtain ⟨x6, hx7, hF⟩ := of_bind hF
    refine st_fn 7 hw hf rfl rfl (by decide) (r_fn en70 hf rfl) (spec_l03Numbers_ok (a0 := a0) (h0.now hw) o6.ro hx7) fun a v w ρ hf hw hE hN hΦ => ?_
    obtain rfl := hΦ
    replace o1 := o1.ext hE
    replace o3 := o3.ext hE
    replace o2 := o2.ext hE
    replace o6 := o6.ext hE
    refine s_ hf (r_not hf rfl) fun a hf => ?_
    refine s_ hf (r_move hf rfl) fun a hf => ?_
    rcases of_ite hF with ⟨hb8, hF⟩ | ⟨hb8, hF⟩
    · refine st_no (b := true) hf rfl rfl rfl hb8 rfl (by decide) fun a hf => ?_
      refine st_no (b := true) hf rfl rfl rfl hb8 rfl (by decide) fun a hf => ?_
      refine st_no (b := true) hf rfl rfl rfl hb8 rfl (by decide) fun a hf => ?_
      refine s_ hf (r_pick (b := true) hf rfl hb8 rfl) fun a hf => ?_
      refine s_ hf (r_move hf rfl) fun a hf => ?_
      refine st_no (b := true) hf rfl rfl rfl rfl rfl (by decide) fun a hf => ?_
      refine st_no (b := true) hf rfl rfl rfl rfl rfl (by decide) fun a hf => ?_
      refine st_no (b := true) hf rfl rfl rfl rfl rfl (by decide) fun a hf => ?_
      refine st_no (b := true) hf rfl rfl rfl rfl rfl (by decide) fun a hf => ?_
      refine st_no (b := true) hf rfl rfl rfl rfl rfl (by decide) fun a hf => ?_
      refine st_no (b := true) hf rfl rfl rfl rfl rfl (by decide) fun a hf => ?_
      refine s_ hf (r_pick (b := true) hf rfl rfl rfl) fun a hf => ?_
      refine s_ hf (r_assign hf rfl) fun a hf => ?_
      refine c_nil ⟨rfl, ?_⟩
      obtain rfl := Option.some.inj hF
      exact ⟨_, hw, hf.sub ⟨rfl, rfl, rfl, rfl, rfl, rfl, rfl, trivial⟩, o1, o2, o3⟩
    refine st_g (b := false) hf rfl rfl rfl hb8 rfl (by decide) (r_move hf rfl) fun a hf => ?_
    obtain ⟨x9, hx10, hF⟩ := of_bind hF
    refine st_gfn (b := false) 8 hw hf rfl rfl rfl hb8 rfl (by decide) (r_fn en80 hf rfl) (spec_l01In_ok  hx10) fun a v w ρ hf hw hE hN hΦ => ?_
    obtain rfl := hΦ
    replace o1 := o1.ext hE
    replace o3 := o3.ext hE
    replace o2 := o2.ext hE
    replace o6 := o6.ext hE
    refine st_g (b := false) hf rfl rfl rfl hb8 rfl (by decide) (r_not hf rfl) fun a hf => ?_
    refine s_ hf (r_pick (b := false) hf rfl hb8 rfl) fun a hf => ?_
    refine s_ hf (r_move hf rfl) fun a hf => ?_
    rcases of_ite hF with ⟨hb11, hF⟩ | ⟨hb11, hF⟩
    · refine st_no (b := true) hf rfl rfl rfl hb11 rfl (by decide) fun a hf => ?_
      refine st_no (b := true) hf rfl rfl rfl hb11 rfl (by decide) fun a hf => ?_
      refine st_no (b := true) hf rfl rfl rfl hb11 rfl (by decide) fun a hf => ?_
      refine st_no (b := true) hf rfl rfl rfl hb11 rfl (by decide) fun a hf => ?_
      refine st_no (b := true) hf rfl rfl rfl hb11 rfl (by decide) fun a hf => ?_
      refine st_no (b := true) hf rfl rfl rfl hb11 rfl (by decide) fun a hf => ?_
      refine s_ hf (r_pick (b := true) hf rfl hb11 rfl) fun a hf => ?_
      refine s_ hf (r_assign hf rfl) fun a hf => ?_
      refine c_nil ⟨rfl, ?_⟩
      obtain rfl := Option.some.inj hF
      exact ⟨_, hw, hf.sub ⟨rfl, rfl, rfl, rfl, rfl, rfl, rfl, trivial⟩, o1, o2, o3⟩
    refine st_g (b := false) hf rfl rfl rfl hb11 rfl (by decide) (r_move hf rfl) fun a hf => ?_
    refine st_g (b := false) hf rfl rfl rfl hb11 rfl (by decide) (r_fa fa28_0 hf rfl) fun a hf => ?_
    refine st_g (b := false) hf rfl rfl rfl hb11 rfl (by decide) (r_load_cell ty2 hf rfl (o1.cl.at_ 0 _ rfl)) fun a hf => ?_
    refine st_g (b := false) hf rfl rfl rfl hb11 rfl (by decide) (r_sub hf rfl rfl) fun a hf => ?_
    obtain ⟨x12, hx13, hF⟩ := of_bind hF
    refine st_gfn (b := false) 9 hw hf rfl rfl rfl hb11 rfl (by decide) (r_fn en80 hf rfl) (spec_l01In_ok  hx13) fun a v w ρ hf hw hE hN hΦ => ?_
    obtain rfl := hΦ
    replace o1 := o1.ext hE
    replace o3 := o3.ext hE
    replace o2 := o2.ext hE
    replace o6 := o6.ext hE
    refine st_g (b := false) hf rfl rfl rfl hb11 rfl (by decide) (r_not hf rfl) fun a hf => ?_
    refine s_ hf (r_pick (b := false) hf rfl hb11 rfl) fun a hf => ?_
    refine s_ hf (r_assign hf rfl) fun a hf => ?_
    refine c_nil ⟨rfl, ?_⟩
    obtain rfl := Option.some.inj hF
    exact ⟨_, hw, hf.sub ⟨rfl, rfl, rfl, rfl, rfl, rfl, rfl, trivial⟩, o1, o2, o3⟩
  rintro a w ⟨ρ, hw, hf, o1, o2, o3⟩
  have hF := hG4
  refine n_then ?_
  rcases of_ite hF with ⟨hb14, hF⟩ | ⟨hb14, hF⟩
  · refine c_ift hf rfl hb14 <| c_seq <| c_region ?_
    have o10 : Ow (kf cProd) 78 ρ w w0.heap.size 10 (.slice none 0 0) [] := Ow.nil _ _ _ _ _ _
    refine s_ hf (r_build_struct (pl := [(0, 1), (1, 1), (2, 1), (3, 1), (4, 1)]) (vs := []) (res := ([vI 0, vI 0, vI 0, vI 0, (.slice none 0 0)]).toArray) Try.underlying28 (by kernel_rfl) ze28 hf rfl rfl rfl) fun a hf => ?_
    refine sk_ hf (r_store_w (cs' := [vI 0, vI 0, vI 0, vI 0, (.slice none 0 0)]) hw o2 (by decide) ty28 rfl rfl (one_sch o10.ro.one) hf rfl rfl rfl) fun a w hf hΦ => ?_
    obtain ⟨hw, hA, o2⟩ := hΦ
    replace o1 := o1.adv hA (by decide)
    replace o3 := o3.adv hA (by decide)
    replace o10 := o10.adv hA (by decide)
    refine s_ hf (r_assign hf rfl) fun a hf => ?_
    refine c_nt <| c_retc ?_
    obtain rfl := Option.some.inj hF
    refine r_block <| r_then <| c_ret hf (res_ct Try.results27 ty28 hf rfl o2.cl rfl rfl) ?_
    exact ⟨_, rfl, hw.below, ⟨_, rfl, o10.out⟩⟩
  refine c_iff hf rfl hb14 <| c_seq ?_
  obtain ⟨s16, hT15, hG15⟩ := of_bind hF
  clear hF
  refine c_meet (fun (s16 : Bool) a w => ∃ ρ, Wd w0 ρ w ∧ Fr 66 a [(1, vI a1), (2, vI a2), (3, vI a3), (4, vI a4), (5, .pointer (some ((⟨g1, 0, none⟩ : Addr).add 0))), (10, .pointer (some ((⟨g2, 0, none⟩ : Addr).add 0))), (38, .bool s16)] ∧ Va ρ w 1 g1 28 ([vI a0.p, vI a0.n, vI a0.m, vI a0.k, va0]) ∧ Va ρ w 2 g2 28 ([vI 0, vI 0, vI 0, vI 0, (.slice none 0 0)]) ∧ O78 ρ w w0 3 (.slice none 0 0) ([] : List Prod)) s16 ?_ ?_
  · have hF := hT15
    rcases of_ite hF with ⟨hb17, hF⟩ | ⟨hb17, hF⟩
    · replace hf : Fr 66 a [(1, vI a1), (2, vI a2), (3, vI a3), (4, vI a4), (5, .pointer (some ((⟨g1, 0, none⟩ : Addr).add 0))), (10, .pointer (some ((⟨g2, 0, none⟩ : Addr).add 0)))] := hf.sub ⟨rfl, rfl, rfl, rfl, rfl, rfl, trivial⟩
      refine c_drawL (h := 17) mixed (by kernel_rfl) (by kernel_rfl) (fun ρ w => Va ρ w 1 g1 28 ([vI a0.p, vI a0.n, vI a0.m, vI a0.k, va0]) ∧ Va ρ w 2 g2 28 ([vI 0, vI 0, vI 0, vI 0, (.slice none 0 0)]) ∧ O78 ρ w w0 3 (.slice none 0 0) ([] : List Prod)) ?_ [fun ρ w v => vI a1 = v, fun ρ w v => vI a2 = v, fun ρ w v => .bool (decide (a1 = a2)) = v, fun ρ w v => .bool (decide (a1 = a2)) = v, fun ρ w v => undef = v, fun ρ w v => undef = v, fun ρ w v => undef = v, fun ρ w v => undef = v, fun ρ w v => undef = v, fun ρ w v => undef = v, fun ρ w v => undef = v, fun ρ w v => undef = v, fun ρ w v => undef = v, fun ρ w v => undef = v, fun ρ w v => undef = v, fun ρ w v => undef = v, fun ρ w v => undef = v] ?_ hw ⟨o1, o2, o3⟩ hf ?_ ?_
      · intro ρ w ρ' w' hE hG
        obtain ⟨o1, o2, o3⟩ := hG
        exact ⟨o1.ext hE, o2.ext hE, o3.ext hE⟩
      · exact LastsL.cons (fun _ _ _ _ _ _ h => h) <| LastsL.cons (fun _ _ _ _ _ _ h => h) <| LastsL.cons (fun _ _ _ _ _ _ h => h) <| LastsL.cons (fun _ _ _ _ _ _ h => h) <| LastsL.cons (fun _ _ _ _ _ _ h => h) <| LastsL.cons (fun _ _ _ _ _ _ h => h) <| LastsL.cons (fun _ _ _ _ _ _ h => h) <| LastsL.cons (fun _ _ _ _ _ _ h => h) <| LastsL.cons (fun _ _ _ _ _ _ h => h) <| LastsL.cons (fun _ _ _ _ _ _ h => h) <| LastsL.cons (fun _ _ _ _ _ _ h => h) <| LastsL.cons (fun _ _ _ _ _ _ h => h) <| LastsL.cons (fun _ _ _ _ _ _ h => h) <| LastsL.cons (fun _ _ _ _ _ _ h => h) <| LastsL.cons (fun _ _ _ _ _ _ h => h) <| LastsL.cons (fun _ _ _ _ _ _ h => h) <| LastsL.cons (fun _ _ _ _ _ _ h => h) <| LastsL.nil
      · refine StepsB.cons ?_ <| StepsB.cons ?_ <| StepsB.cons ?_ <| StepsB.cons ?_ <| StepsB.cons ?_ <| StepsB.cons ?_ <| StepsB.cons ?_ <| StepsB.cons ?_ <| StepsB.cons ?_ <| StepsB.cons ?_ <| StepsB.cons ?_ <| StepsB.cons ?_ <| StepsB.cons ?_ <| StepsB.cons ?_ <| StepsB.cons ?_ <| StepsB.cons ?_ <| StepsB.cons ?_ <| StepsB.nil
        · intro ρ w a hw hG hf hd K hK
          obtain ⟨o1, o2, o3⟩ := hG
          exact dv_ hK hw (wn rfl) (r_move hf rfl) rfl
        · intro ρ w a hw hG hf hd K hK
          obtain ⟨o1, o2, o3⟩ := hG
          exact dv_ hK hw (wn rfl) (r_move hf rfl) rfl
        · intro ρ w a hw hG hf hd K hK
          obtain ⟨o1, o2, o3⟩ := hG
          obtain ⟨_, hf, rfl⟩ := got (hd 0 (by kernel_rfl)) hf
          obtain ⟨_, hf, rfl⟩ := got (hd 1 (by kernel_rfl)) hf
          exact dv_ hK hw (wn rfl) (r_eql hf rfl rfl) rfl
        · intro ρ w a hw hG hf hd K hK
          obtain ⟨o1, o2, o3⟩ := hG
          obtain ⟨_, hf, rfl⟩ := got (hd 2 (by kernel_rfl)) hf
          exact dv_ hK hw (wn rfl) (r_move hf rfl) rfl
        · intro ρ w a hw hG hf hd K hK
          obtain ⟨o1, o2, o3⟩ := hG
          obtain ⟨_, hf, rfl⟩ := got (hd 3 (by kernel_rfl)) hf
          exact do_ hK (b := true) hw hf rfl rfl rfl hb17 rfl rfl
        · intro ρ w a hw hG hf hd K hK
          obtain ⟨o1, o2, o3⟩ := hG
          obtain ⟨_, hf, rfl⟩ := got (hd 3 (by kernel_rfl)) hf
          obtain ⟨_, hf, rfl⟩ := got (hd 4 (by kernel_rfl)) hf
          exact do_ hK (b := true) hw hf rfl rfl rfl hb17 rfl rfl
        · intro ρ w a hw hG hf hd K hK
          obtain ⟨o1, o2, o3⟩ := hG
          obtain ⟨_, hf, rfl⟩ := got (hd 3 (by kernel_rfl)) hf
          exact do_ hK (b := true) hw hf rfl rfl rfl hb17 rfl rfl
        · intro ρ w a hw hG hf hd K hK
          obtain ⟨o1, o2, o3⟩ := hG
          obtain ⟨_, hf, rfl⟩ := got (hd 3 (by kernel_rfl)) hf
          obtain ⟨_, hf, rfl⟩ := got (hd 5 (by kernel_rfl)) hf
          obtain ⟨_, hf, rfl⟩ := got (hd 6 (by kernel_rfl)) hf
          exact do_ hK (b := true) hw hf rfl rfl rfl hb17 rfl rfl
        · intro ρ w a hw hG hf hd K hK
          obtain ⟨o1, o2, o3⟩ := hG
          obtain ⟨_, hf, rfl⟩ := got (hd 3 (by kernel_rfl)) hf
          obtain ⟨_, hf, rfl⟩ := got (hd 7 (by kernel_rfl)) hf
          exact do_ hK (b := true) hw hf rfl rfl rfl hb17 rfl rfl
        · intro ρ w a hw hG hf hd K hK
          obtain ⟨o1, o2, o3⟩ := hG
          obtain ⟨_, hf, rfl⟩ := got (hd 3 (by kernel_rfl)) hf
          exact do_ hK (b := true) hw hf rfl rfl rfl hb17 rfl rfl
        · intro ρ w a hw hG hf hd K hK
          obtain ⟨o1, o2, o3⟩ := hG
          obtain ⟨_, hf, rfl⟩ := got (hd 3 (by kernel_rfl)) hf
          obtain ⟨_, hf, rfl⟩ := got (hd 8 (by kernel_rfl)) hf
          obtain ⟨_, hf, rfl⟩ := got (hd 9 (by kernel_rfl)) hf
          exact do_ hK (b := true) hw hf rfl rfl rfl hb17 rfl rfl
        · intro ρ w a hw hG hf hd K hK
          obtain ⟨o1, o2, o3⟩ := hG
          obtain ⟨_, hf, rfl⟩ := got (hd 3 (by kernel_rfl)) hf
          exact do_ hK (b := true) hw hf rfl rfl rfl hb17 rfl rfl
        · intro ρ w a hw hG hf hd K hK
          obtain ⟨o1, o2, o3⟩ := hG
          obtain ⟨_, hf, rfl⟩ := got (hd 3 (by kernel_rfl)) hf
          obtain ⟨_, hf, rfl⟩ := got (hd 11 (by kernel_rfl)) hf
          exact do_ hK (b := true) hw hf rfl rfl rfl hb17 rfl rfl
        · intro ρ w a hw hG hf hd K hK
          obtain ⟨o1, o2, o3⟩ := hG
          obtain ⟨_, hf, rfl⟩ := got (hd 3 (by kernel_rfl)) hf
          exact do_ hK (b := true) hw hf rfl rfl rfl hb17 rfl rfl
        · intro ρ w a hw hG hf hd K hK
          obtain ⟨o1, o2, o3⟩ := hG
          obtain ⟨_, hf, rfl⟩ := got (hd 3 (by kernel_rfl)) hf
          obtain ⟨_, hf, rfl⟩ := got (hd 12 (by kernel_rfl)) hf
          obtain ⟨_, hf, rfl⟩ := got (hd 13 (by kernel_rfl)) hf
          exact do_ hK (b := true) hw hf rfl rfl rfl hb17 rfl rfl
        · intro ρ w a hw hG hf hd K hK
          obtain ⟨o1, o2, o3⟩ := hG
          obtain ⟨_, hf, rfl⟩ := got (hd 3 (by kernel_rfl)) hf
          obtain ⟨_, hf, rfl⟩ := got (hd 14 (by kernel_rfl)) hf
          exact do_ hK (b := true) hw hf rfl rfl rfl hb17 rfl rfl
        · intro ρ w a hw hG hf hd K hK
          obtain ⟨o1, o2, o3⟩ := hG
          obtain ⟨_, hf, rfl⟩ := got (hd 3 (by kernel_rfl)) hf
          exact do_ hK (b := true) hw hf rfl rfl rfl hb17 rfl rfl
      intro ρ w a hw hG hf hd
      obtain ⟨o1, o2, o3⟩ := hG
      obtain ⟨_, hf, rfl⟩ := got (hd 3 (by decide)) hf
      obtain ⟨_, hf, rfl⟩ := got (hd 10 (by decide)) hf
      obtain ⟨_, hf, rfl⟩ := got (hd 15 (by decide)) hf
      obtain ⟨_, hf, rfl⟩ := got (hd 16 (by decide)) hf
      refine st_no (b := true) hf rfl rfl rfl hb17 rfl (by decide) fun a hf => ?_
      refine st_no (b := true) hf rfl rfl rfl hb17 rfl (by decide) fun a hf => ?_
      refine s_ hf (r_pick (b := true) hf rfl hb17 rfl) fun a hf => ?_
      refine s_ hf (r_assign hf rfl) fun a hf => ?_
      refine c_nil ⟨rfl, ?_⟩
      obtain rfl := Option.some.inj hF
      exact ⟨_, hw, hf.sub ⟨rfl, rfl, rfl, rfl, rfl, rfl, rfl, trivial⟩, o1, o2, o3⟩
    obtain ⟨hc18, hF⟩ := of_guard hF
    obtain ⟨ad19, c19, he19, hl19⟩ := Ro.el cProd h0 zProd hc18.1 hc18.2
    obtain ⟨x20, hx21, hF⟩ := of_bind hF
    obtain ⟨hc22, hF⟩ := of_guard hF
    obtain ⟨ad23, c23, he23, hl23⟩ := Ro.el cProd h0 zProd hc22.1 hc22.2
    replace hf : Fr 66 a [(1, vI a1), (2, vI a2), (3, vI a3), (4, vI a4), (5, .pointer (some ((⟨g1, 0, none⟩ : Addr).add 0))), (10, .pointer (some ((⟨g2, 0, none⟩ : Addr).add 0)))] := hf.sub ⟨rfl, rfl, rfl, rfl, rfl, rfl, trivial⟩
    refine c_drawL (h := 17) mixed (by kernel_rfl) (by kernel_rfl) (fun ρ w => Va ρ w 1 g1 28 ([vI a0.p, vI a0.n, vI a0.m, vI a0.k, va0]) ∧ Va ρ w 2 g2 28 ([vI 0, vI 0, vI 0, vI 0, (.slice none 0 0)]) ∧ O78 ρ w w0 3 (.slice none 0 0) ([] : List Prod)) ?_ [fun ρ w v => vI a1 = v, fun ρ w v => vI a2 = v, fun ρ w v => .bool (decide (a1 = a2)) = v, fun ρ w v => .bool (decide (a1 = a2)) = v, fun ρ w v => .pointer (some ((⟨g1, 0, none⟩ : Addr).add (0 + 4))) = v, fun ρ w v => va0 = v, fun ρ w v => vI a1 = v, fun ρ w v => .pointer (some (ad19.add (a1.toNat * 27))) = v, fun ρ w v => .agg (cProd.enc (gl zProd a0.ps a1)).toArray = v, fun ρ w v => vI a3 = v, fun ρ w v => .agg (cForm.enc x20).toArray = v, fun ρ w v => .pointer (some ((⟨g1, 0, none⟩ : Addr).add (0 + 4))) = v, fun ρ w v => va0 = v, fun ρ w v => vI a2 = v, fun ρ w v => .pointer (some (ad23.add (a2.toNat * 27))) = v, fun ρ w v => .agg (cProd.enc (gl zProd a0.ps a2)).toArray = v, fun ρ w v => vI a3 = v] ?_ hw ⟨o1, o2, o3⟩ hf ?_ ?_
    · intro ρ w ρ' w' hE hG
      obtain ⟨o1, o2, o3⟩ := hG
      exact ⟨o1.ext hE, o2.ext hE, o3.ext hE⟩
    · exact LastsL.cons (fun _ _ _ _ _ _ h => h) <| LastsL.cons (fun _ _ _ _ _ _ h => h) <| LastsL.cons (fun _ _ _ _ _ _ h => h) <| LastsL.cons (fun _ _ _ _ _ _ h => h) <| LastsL.cons (fun _ _ _ _ _ _ h => h) <| LastsL.cons (fun _ _ _ _ _ _ h => h) <| LastsL.cons (fun _ _ _ _ _ _ h => h) <| LastsL.cons (fun _ _ _ _ _ _ h => h) <| LastsL.cons (fun _ _ _ _ _ _ h => h) <| LastsL.cons (fun _ _ _ _ _ _ h => h) <| LastsL.cons (fun _ _ _ _ _ _ h => h) <| LastsL.cons (fun _ _ _ _ _ _ h => h) <| LastsL.cons (fun _ _ _ _ _ _ h => h) <| LastsL.cons (fun _ _ _ _ _ _ h => h) <| LastsL.cons (fun _ _ _ _ _ _ h => h) <| LastsL.cons (fun _ _ _ _ _ _ h => h) <| LastsL.cons (fun _ _ _ _ _ _ h => h) <| LastsL.nil
    · refine StepsB.cons ?_ <| StepsB.cons ?_ <| StepsB.cons ?_ <| StepsB.cons ?_ <| StepsB.cons ?_ <| StepsB.cons ?_ <| StepsB.cons ?_ <| StepsB.cons ?_ <| StepsB.cons ?_ <| StepsB.cons ?_ <| StepsB.cons ?_ <| StepsB.cons ?_ <| StepsB.cons ?_ <| StepsB.cons ?_ <| StepsB.cons ?_ <| StepsB.cons ?_ <| StepsB.cons ?_ <| StepsB.nil
      · intro ρ w a hw hG hf hd K hK
        obtain ⟨o1, o2, o3⟩ := hG
        exact dv_ hK hw (wn rfl) (r_move hf rfl) rfl
      · intro ρ w a hw hG hf hd K hK
        obtain ⟨o1, o2, o3⟩ := hG
        exact dv_ hK hw (wn rfl) (r_move hf rfl) rfl
      · intro ρ w a hw hG hf hd K hK
        obtain ⟨o1, o2, o3⟩ := hG
        obtain ⟨_, hf, rfl⟩ := got (hd 0 (by kernel_rfl)) hf
        obtain ⟨_, hf, rfl⟩ := got (hd 1 (by kernel_rfl)) hf
        exact dv_ hK hw (wn rfl) (r_eql hf rfl rfl) rfl
      · intro ρ w a hw hG hf hd K hK
        obtain ⟨o1, o2, o3⟩ := hG
        obtain ⟨_, hf, rfl⟩ := got (hd 2 (by kernel_rfl)) hf
        exact dv_ hK hw (wn rfl) (r_move hf rfl) rfl
      · intro ρ w a hw hG hf hd K hK
        obtain ⟨o1, o2, o3⟩ := hG
        obtain ⟨_, hf, rfl⟩ := got (hd 3 (by kernel_rfl)) hf
        exact dv_ hK hw (wg (b := false) hf rfl rfl rfl hb17) (r_fa fa28_4 hf rfl) rfl
      · intro ρ w a hw hG hf hd K hK
        obtain ⟨o1, o2, o3⟩ := hG
        obtain ⟨_, hf, rfl⟩ := got (hd 3 (by kernel_rfl)) hf
        obtain ⟨_, hf, rfl⟩ := got (hd 4 (by kernel_rfl)) hf
        exact dv_ hK hw (wg (b := false) hf rfl rfl rfl hb17) (r_load_cell ty26 hf rfl (o1.cl.at_ 4 _ rfl)) rfl
      · intro ρ w a hw hG hf hd K hK
        obtain ⟨o1, o2, o3⟩ := hG
        obtain ⟨_, hf, rfl⟩ := got (hd 3 (by kernel_rfl)) hf
        exact dv_ hK hw (wg (b := false) hf rfl rfl rfl hb17) (r_move hf rfl) rfl
      · intro ρ w a hw hG hf hd K hK
        obtain ⟨o1, o2, o3⟩ := hG
        obtain ⟨_, hf, rfl⟩ := got (hd 3 (by kernel_rfl)) hf
        obtain ⟨_, hf, rfl⟩ := got (hd 5 (by kernel_rfl)) hf
        obtain ⟨_, hf, rfl⟩ := got (hd 6 (by kernel_rfl)) hf
        exact dv_ hK hw (wg (b := false) hf rfl rfl rfl hb17) (r_idx Try.underlying26 sz78 hf rfl ⟨_, he19⟩ rfl hc18.1 hc18.2) rfl
      · intro ρ w a hw hG hf hd K hK
        obtain ⟨o1, o2, o3⟩ := hG
        obtain ⟨_, hf, rfl⟩ := got (hd 3 (by kernel_rfl)) hf
        obtain ⟨_, hf, rfl⟩ := got (hd 7 (by kernel_rfl)) hf
        exact dv_ hK hw (wg (b := false) hf rfl rfl rfl hb17) (r_load_agg ty78 hf rfl (hl19.below hw.below) (cProd.len _)) rfl
      · intro ρ w a hw hG hf hd K hK
        obtain ⟨o1, o2, o3⟩ := hG
        obtain ⟨_, hf, rfl⟩ := got (hd 3 (by kernel_rfl)) hf
        exact dv_ hK hw (wg (b := false) hf rfl rfl rfl hb17) (r_move hf rfl) rfl
      · intro ρ w a hw hG hf hd K hK
        obtain ⟨o1, o2, o3⟩ := hG
        obtain ⟨_, hf, rfl⟩ := got (hd 3 (by kernel_rfl)) hf
        obtain ⟨_, hf, rfl⟩ := got (hd 8 (by kernel_rfl)) hf
        obtain ⟨_, hf, rfl⟩ := got (hd 9 (by kernel_rfl)) hf
        refine dc_ hK hw (wg (b := false) hf rfl rfl rfl hb17) (r_fn en84 hf rfl) (spec_l03Factor_ok  hx21) fun v w' hΦ => ?_
        obtain ⟨hb, hΦ⟩ := hΦ
        obtain rfl := hΦ
        have hE := Ext.new (ρ := ρ) 11 hb
        exact ⟨_, hw.new 11 hb, hE, rfl⟩
      · intro ρ w a hw hG hf hd K hK
        obtain ⟨o1, o2, o3⟩ := hG
        obtain ⟨_, hf, rfl⟩ := got (hd 3 (by kernel_rfl)) hf
        exact dv_ hK hw (wg (b := false) hf rfl rfl rfl hb17) (r_fa fa28_4 hf rfl) rfl
      · intro ρ w a hw hG hf hd K hK
        obtain ⟨o1, o2, o3⟩ := hG
        obtain ⟨_, hf, rfl⟩ := got (hd 3 (by kernel_rfl)) hf
        obtain ⟨_, hf, rfl⟩ := got (hd 11 (by kernel_rfl)) hf
        exact dv_ hK hw (wg (b := false) hf rfl rfl rfl hb17) (r_load_cell ty26 hf rfl (o1.cl.at_ 4 _ rfl)) rfl
      · intro ρ w a hw hG hf hd K hK
        obtain ⟨o1, o2, o3⟩ := hG
        obtain ⟨_, hf, rfl⟩ := got (hd 3 (by kernel_rfl)) hf
        exact dv_ hK hw (wg (b := false) hf rfl rfl rfl hb17) (r_move hf rfl) rfl
      · intro ρ w a hw hG hf hd K hK
        obtain ⟨o1, o2, o3⟩ := hG
        obtain ⟨_, hf, rfl⟩ := got (hd 3 (by kernel_rfl)) hf
        obtain ⟨_, hf, rfl⟩ := got (hd 12 (by kernel_rfl)) hf
        obtain ⟨_, hf, rfl⟩ := got (hd 13 (by kernel_rfl)) hf
        exact dv_ hK hw (wg (b := false) hf rfl rfl rfl hb17) (r_idx Try.underlying26 sz78 hf rfl ⟨_, he23⟩ rfl hc22.1 hc22.2) rfl
      · intro ρ w a hw hG hf hd K hK
        obtain ⟨o1, o2, o3⟩ := hG
        obtain ⟨_, hf, rfl⟩ := got (hd 3 (by kernel_rfl)) hf
        obtain ⟨_, hf, rfl⟩ := got (hd 14 (by kernel_rfl)) hf
        exact dv_ hK hw (wg (b := false) hf rfl rfl rfl hb17) (r_load_agg ty78 hf rfl (hl23.below hw.below) (cProd.len _)) rfl
      · intro ρ w a hw hG hf hd K hK
        obtain ⟨o1, o2, o3⟩ := hG
        obtain ⟨_, hf, rfl⟩ := got (hd 3 (by kernel_rfl)) hf
        exact dv_ hK hw (wg (b := false) hf rfl rfl rfl hb17) (r_move hf rfl) rfl
    intro ρ w a hw hG hf hd
    obtain ⟨o1, o2, o3⟩ := hG
    obtain ⟨_, hf, rfl⟩ := got (hd 3 (by decide)) hf
    obtain ⟨_, hf, rfl⟩ := got (hd 10 (by decide)) hf
    obtain ⟨_, hf, rfl⟩ := got (hd 15 (by decide)) hf
    obtain ⟨_, hf, rfl⟩ := got (hd 16 (by decide)) hf
    obtain ⟨x24, hx25, hF⟩ := of_bind hF
    refine st_gfn (b := false) 12 hw hf rfl rfl rfl hb17 rfl (by decide) (r_fn en84 hf rfl) (spec_l03Factor_ok  hx25) fun a v w ρ hf hw hE hN hΦ => ?_
    obtain rfl := hΦ
    replace o1 := o1.ext hE
    replace o2 := o2.ext hE
    replace o3 := o3.ext hE
    refine st_g (b := false) hf rfl rfl rfl hb17 rfl (by decide) (r_ne (d := cForm) eq39 ⟨_, rfl⟩ gt39 hf rfl rfl) fun a hf => ?_
    refine s_ hf (r_pick (b := false) hf rfl hb17 rfl) fun a hf => ?_
    refine s_ hf (r_assign hf rfl) fun a hf => ?_
    refine c_nil ⟨rfl, ?_⟩
    obtain rfl := Option.some.inj hF
    exact ⟨_, hw, hf.sub ⟨rfl, rfl, rfl, rfl, rfl, rfl, rfl, trivial⟩, o1, o2, o3⟩
  rintro a w ⟨ρ, hw, hf, o1, o2, o3⟩
  have hF := hG15
  refine n_then ?_
  rcases of_ite hF with ⟨hb26, hF⟩ | ⟨hb26, hF⟩
  · refine c_ift hf rfl hb26 <| c_seq <| c_region ?_
    have o13 : Ow (kf cProd) 78 ρ w w0.heap.size 13 (.slice none 0 0) [] := Ow.nil _ _ _ _ _ _
    refine s_ hf (r_build_struct (pl := [(0, 1), (1, 1), (2, 1), (3, 1), (4, 1)]) (vs := []) (res := ([vI 0, vI 0, vI 0, vI 0, (.slice none 0 0)]).toArray) Try.underlying28 (by kernel_rfl) ze28 hf rfl rfl rfl) fun a hf => ?_
    refine sk_ hf (r_store_w (cs' := [vI 0, vI 0, vI 0, vI 0, (.slice none 0 0)]) hw o2 (by decide) ty28 rfl rfl (one_sch o13.ro.one) hf rfl rfl rfl) fun a w hf hΦ => ?_
    obtain ⟨hw, hA, o2⟩ := hΦ
    replace o1 := o1.adv hA (by decide)
    replace o3 := o3.adv hA (by decide)
    replace o13 := o13.adv hA (by decide)
    refine s_ hf (r_assign hf rfl) fun a hf => ?_
    refine c_nt <| c_retc ?_
    obtain rfl := Option.some.inj hF
    refine r_block <| r_then <| c_ret hf (res_ct Try.results27 ty28 hf rfl o2.cl rfl rfl) ?_
    exact ⟨_, rfl, hw.below, ⟨_, rfl, o13.out⟩⟩
  refine c_iff hf rfl hb26 <| c_skip <| n_block <| n_then <| c_seq <| c_region ?_
  refine s_ hf (r_load_agg ty28 hf rfl o1.cl rfl) fun a hf => ?_
  refine s_ hf (r_move hf rfl) fun a hf => ?_
  refine s_ hf (r_move hf rfl) fun a hf => ?_
  refine s_ hf (r_move hf rfl) fun a hf => ?_
  refine s_ hf (r_move hf rfl) fun a hf => ?_
  obtain ⟨x27, hx28, hF⟩ := of_bind hF
  refine st_fn 14 hw hf rfl rfl (by decide) (r_fn en89 hf rfl) (spec_l03Flip_ok (a0 := a0) (h0.now hw) hx28) fun a v w ρ hf hw hE hN hΦ => ?_
  obtain ⟨u29, rfl, hr30⟩ := hΦ
  replace o1 := o1.ext hE
  replace o2 := o2.ext hE
  replace o3 := o3.ext hE
  have o14 := hN hr30
  refine sk_ hf (r_store_w (cs' := [vI x27.p, vI x27.n, vI x27.m, vI x27.k, u29]) hw o2 (by decide) ty28 rfl rfl (one_sch o14.ro.one) hf rfl rfl rfl) fun a w hf hΦ => ?_
  obtain ⟨hw, hA, o2⟩ := hΦ
  replace o1 := o1.adv hA (by decide)
  replace o3 := o3.adv hA (by decide)
  replace o14 := o14.adv hA (by decide)
  refine s_ hf (r_assign hf rfl) fun a hf => ?_
  refine c_nt <| c_retc ?_
  obtain rfl := Option.some.inj hF
  refine c_ret hf (res_ct Try.results27 ty28 hf rfl o2.cl rfl rfl) ?_
  exact ⟨_, rfl, hw.below, ⟨_, rfl, o14.out⟩⟩
/-! f88 -/
noncomputable def impl_productOf (a0 : Forms) : Option Prod :=
  some ((vg zForm a0 0, vg zForm a0 1, vg zForm a0 2))
theorem impl_productOf_ok {w0 : World} {a0 : Forms}   {r : Prod} (hF : impl_productOf a0 = some r) :
    Calls Try.prog 88 [.agg (cForms.enc a0).toArray].toArray w0 fun e w => ∃ v, e = .returned v ∧ Below w0.heap.size w0 w ∧ .agg (cProd.enc r).toArray = v := by
  refine calls_of (k := 10) Try.func88 rfl rfl (Nat.le_of_ble_eq_true rfl) fun a hf => ?_
  replace hf : Fr 10 a [(0, .agg (cForms.enc a0).toArray)] := hf
  refine c_start fun w ρ hw => ?_
  unfold impl_productOf at hF
  refine c_seq <| c_region ?_
  refine sx_ hf (r_box (cs := cForms.enc a0) 1 hw hf rfl rfl) fun a v w hf hΦ => ?_
  obtain ⟨g1, ρ, rfl, hw, hE, o1⟩ := hΦ
  refine sx_ hf (r_alloc (cs := cProd.enc zProd) 2 ze78 rfl hw) fun a v w hf hΦ => ?_
  obtain ⟨g2, ρ, rfl, hw, hE, o2⟩ := hΦ
  replace o1 := o1.ext hE
  refine c_nt <| c_seq <| c_region ?_
  refine s_ hf (r_indexAddr_arr Try.underlying91 sz39 hf rfl rfl (by decide) (by decide)) fun a hf => ?_
  refine s_ hf (r_load_agg ty39 hf rfl (o1.cl.lens (Lens.vec zForm cForm 0 (by decide) (by decide))) (cForm.len _)) fun a hf => ?_
  refine s_ hf (r_indexAddr_arr Try.underlying91 sz39 hf rfl rfl (by decide) (by decide)) fun a hf => ?_
  refine s_ hf (r_load_agg ty39 hf rfl (o1.cl.lens (Lens.vec zForm cForm 1 (by decide) (by decide))) (cForm.len _)) fun a hf => ?_
  refine s_ hf (r_indexAddr_arr Try.underlying91 sz39 hf rfl rfl (by decide) (by decide)) fun a hf => ?_
  refine s_ hf (r_load_agg ty39 hf rfl (o1.cl.lens (Lens.vec zForm cForm 2 (by decide) (by decide))) (cForm.len _)) fun a hf => ?_
  refine s_ hf (r_build_struct (pl := [(0, 9), (9, 9), (18, 9)]) (vs := [(0, .agg (cForm.enc (vg zForm a0 0)).toArray), (1, .agg (cForm.enc (vg zForm a0 1)).toArray), (2, .agg (cForm.enc (vg zForm a0 2)).toArray)]) (res := (cProd.enc (vg zForm a0 0, vg zForm a0 1, vg zForm a0 2)).toArray) Try.underlying78 (by kernel_rfl) ze78 hf rfl rfl ((fill_lens (d := cProd) (z := zProd) lProd_0 rfl rfl).trans ((fill_lens (d := cProd) (z := (vg zForm a0 0, zProd.2.1, zProd.2.2)) lProd_1 rfl rfl).trans ((fill_lens (d := cProd) (z := (vg zForm a0 0, vg zForm a0 1, zProd.2.2)) lProd_2 rfl rfl).trans rfl)))) fun a hf => ?_
  refine sk_ hf (r_store_w (cs' := cProd.enc (vg zForm a0 0, vg zForm a0 1, vg zForm a0 2)) hw o2 (by decide) ty78 (cProd.len _) (cProd.len _) (cProd.one _) hf rfl rfl rfl) fun a w hf hΦ => ?_
  obtain ⟨hw, hA, o2⟩ := hΦ
  replace o1 := o1.adv hA (by decide)
  refine c_nt <| c_retc ?_
  obtain rfl := Option.some.inj hF
  refine c_ret hf (res_cell Try.results88 ty78 hf rfl o2.cl (cProd.len _)) ?_
  exact ⟨_, rfl, hw.below, rfl⟩
/-! f90 -/
noncomputable def impl_flip (a0 : Sch) (a1 : Int) (a2 : Int) (a3 : Int) (a4 : Int) : Option Sch :=
  (slices_Clone_76 a0.ps).bind fun x1 => if 0 ≤ a1 ∧ a1 < (x1.length : Int) then ((impl_factors (gl zProd x1 a1)).bind fun x7 => if 0 ≤ a2 ∧ a2 < (x1.length : Int) then ((impl_factors (gl zProd x1 a2)).bind fun x11 => if 0 ≤ (w64 (a3 + 1)).tmod 3 ∧ (w64 (a3 + 1)).tmod 3 < 3 then ((impl_sum a0.p (vg zForm x7 ((w64 (a3 + 1)).tmod 3)) (vg zForm x11 ((w64 (a3 + 1)).tmod 3)) a4).bind fun x14 => if 0 ≤ (w64 (a3 + 2)).tmod 3 ∧ (w64 (a3 + 2)).tmod 3 < 3 then ((impl_sum a0.p (vg zForm x11 ((w64 (a3 + 2)).tmod 3)) (vg zForm (vs x7 ((w64 (a3 + 1)).tmod 3) x14) ((w64 (a3 + 2)).tmod 3)) (w64 (a0.p - a4))).bind fun x17 => (impl_productOf (vs x7 ((w64 (a3 + 1)).tmod 3) x14)).bind fun x19 => (impl_productOf (vs x11 ((w64 (a3 + 2)).tmod 3) x17)).bind fun x21 => if 0 ≤ a2 ∧ a2 < ((x1.set a1.toNat x19).length : Int) then ((impl_kept ((x1.set a1.toNat x19).set a2.toNat x21)).bind fun x26 => (impl_with a0 x26).bind fun x29 => some (x29)) else none) else none) else none) else none) else none
theorem impl_flip_ok {w0 : World} {a0 : Sch} {a1 : Int} {a2 : Int} {a3 : Int} {a4 : Int} {va0 : Value} (h0 : Ro (kf cProd) w0 va0 a0.ps) {r : Sch} (hF : impl_flip a0 a1 a2 a3 a4 = some r) :
    Calls Try.prog 90 [.agg ([vI a0.p, vI a0.n, vI a0.m, vI a0.k, va0]).toArray, vI a1, vI a2, vI a3, vI a4].toArray w0 fun e w => ∃ v, e = .returned v ∧ Below w0.heap.size w0 w ∧ ∃ u0, .agg [.int .i64 r.p, .int .i64 r.n, .int .i64 r.m, .int .i64 r.k, u0].toArray = v ∧ Fresh (kf cProd) 78 w0 w u0 r.ps := by
  refine calls_of (k := 76) Try.func90 rfl rfl (Nat.le_of_ble_eq_true rfl) fun a hf => ?_
  replace hf : Fr 76 a [(0, .agg ([vI a0.p, vI a0.n, vI a0.m, vI a0.k, va0]).toArray), (1, vI a1), (2, vI a2), (3, vI a3), (4, vI a4)] := hf
  refine c_start fun w ρ hw => ?_
  unfold impl_flip at hF
  refine c_seq <| c_region ?_
  refine sx_ hf (r_box (cs := [vI a0.p, vI a0.n, vI a0.m, vI a0.k, va0]) 1 hw hf rfl rfl) fun a v w hf hΦ => ?_
  obtain ⟨g1, ρ, rfl, hw, hE, o1⟩ := hΦ
  have o3 : Ow (kf cProd) 78 ρ w w0.heap.size 3 (.slice none 0 0) [] := Ow.nil _ _ _ _ _ _
  refine sx_ hf (r_alloc (cs := [vI 0, vI 0, vI 0, vI 0, (.slice none 0 0)]) 2 ze28 rfl hw) fun a v w hf hΦ => ?_
  obtain ⟨g2, ρ, rfl, hw, hE, o2⟩ := hΦ
  replace o1 := o1.ext hE
  replace o3 := o3.ext hE
  refine c_nt <| c_seq <| c_region ?_
  refine s_ hf (r_fa fa28_4 hf rfl) fun a hf => ?_
  refine s_ hf (r_load_cell ty26 hf rfl (o1.cl.at_ 4 _ rfl)) fun a hf => ?_
  obtain ⟨x1, hx2, hF⟩ := of_bind hF
  refine st_fn 4 hw hf rfl rfl (by decide) (r_fn en76 hf rfl) (slices_Clone_76_ok (h0.now hw) hx2) fun a v w ρ hf hw hE hN hΦ => ?_
  obtain ⟨u3, rfl, hr4⟩ := hΦ
  replace o1 := o1.ext hE
  replace o3 := o3.ext hE
  replace o2 := o2.ext hE
  have o4 := hN hr4
  refine s_ hf (r_assign hf rfl) fun a hf => ?_
  refine c_nt <| c_seq ?_
  obtain ⟨hc5, hF⟩ := of_guard hF
  obtain ⟨x7, hx8, hF⟩ := of_bind hF
  obtain ⟨hc9, hF⟩ := of_guard hF
  obtain ⟨x11, hx12, hF⟩ := of_bind hF
  replace hf : Fr 76 a [(1, vI a1), (2, vI a2), (3, vI a3), (4, vI a4), (5, .pointer (some ((⟨g1, 0, none⟩ : Addr).add 0))), (10, .pointer (some ((⟨g2, 0, none⟩ : Addr).add 0))), (11, u3)] := hf.sub ⟨rfl, rfl, rfl, rfl, rfl, rfl, rfl, trivial⟩
  refine c_drawL (h := 12) mixed (by kernel_rfl) (by kernel_rfl) (fun ρ w => Va ρ w 1 g1 28 ([vI a0.p, vI a0.n, vI a0.m, vI a0.k, va0]) ∧ Va ρ w 2 g2 28 ([vI 0, vI 0, vI 0, vI 0, (.slice none 0 0)]) ∧ O78 ρ w w0 3 (.slice none 0 0) ([] : List Prod) ∧ O78 ρ w w0 4 u3 x1) ?_ [fun ρ w v => u3 = v, fun ρ w v => vI a1 = v, fun ρ w v => ∃ ad6, .pointer (some (ad6.add (a1.toNat * 27))) = v ∧ Ce ρ w 4 u3 x1.length ad6 (a1.toNat * 27) (cProd.enc (gl zProd x1 a1)), fun ρ w v => .agg (cProd.enc (gl zProd x1 a1)).toArray = v, fun ρ w v => .agg (cForms.enc x7).toArray = v, fun ρ w v => u3 = v, fun ρ w v => vI a2 = v, fun ρ w v => ∃ ad10, .pointer (some (ad10.add (a2.toNat * 27))) = v ∧ Ce ρ w 4 u3 x1.length ad10 (a2.toNat * 27) (cProd.enc (gl zProd x1 a2)), fun ρ w v => .agg (cProd.enc (gl zProd x1 a2)).toArray = v, fun ρ w v => .agg (cForms.enc x11).toArray = v, fun ρ w v => ∃ g9, .pointer (some ((⟨g9, 0, none⟩ : Addr).add 0)) = v ∧ Va ρ w 9 g9 91 (cForms.enc zForms), fun ρ w v => ∃ g10, .pointer (some ((⟨g10, 0, none⟩ : Addr).add 0)) = v ∧ Va ρ w 10 g10 91 (cForms.enc zForms)] ?_ hw ⟨o1, o2, o3, o4⟩ hf ?_ ?_
  · intro ρ w ρ' w' hE hG
    obtain ⟨o1, o2, o3, o4⟩ := hG
    exact ⟨o1.ext hE, o2.ext hE, o3.ext hE, o4.ext hE⟩
  · exact LastsL.cons (fun _ _ _ _ _ _ h => h) <| LastsL.cons (fun _ _ _ _ _ _ h => h) <| LastsL.cons (fun _ _ _ _ _ hE h => by obtain ⟨ad6, h, hl6⟩ := h; exact ⟨_, h, hl6.ext hE⟩) <| LastsL.cons (fun _ _ _ _ _ _ h => h) <| LastsL.cons (fun _ _ _ _ _ _ h => h) <| LastsL.cons (fun _ _ _ _ _ _ h => h) <| LastsL.cons (fun _ _ _ _ _ _ h => h) <| LastsL.cons (fun _ _ _ _ _ hE h => by obtain ⟨ad10, h, hl10⟩ := h; exact ⟨_, h, hl10.ext hE⟩) <| LastsL.cons (fun _ _ _ _ _ _ h => h) <| LastsL.cons (fun _ _ _ _ _ _ h => h) <| LastsL.cons (fun _ _ _ _ _ hE h => by obtain ⟨g9, h, o9⟩ := h; exact ⟨_, h, o9.ext hE⟩) <| LastsL.cons (fun _ _ _ _ _ hE h => by obtain ⟨g10, h, o10⟩ := h; exact ⟨_, h, o10.ext hE⟩) <| LastsL.nil
  · refine StepsB.cons ?_ <| StepsB.cons ?_ <| StepsB.cons ?_ <| StepsB.cons ?_ <| StepsB.cons ?_ <| StepsB.cons ?_ <| StepsB.cons ?_ <| StepsB.cons ?_ <| StepsB.cons ?_ <| StepsB.cons ?_ <| StepsB.cons ?_ <| StepsB.cons ?_ <| StepsB.nil
    · intro ρ w a hw hG hf hd K hK
      obtain ⟨o1, o2, o3, o4⟩ := hG
      exact dv_ hK hw (wn rfl) (r_move hf rfl) rfl
    · intro ρ w a hw hG hf hd K hK
      obtain ⟨o1, o2, o3, o4⟩ := hG
      exact dv_ hK hw (wn rfl) (r_move hf rfl) rfl
    · intro ρ w a hw hG hf hd K hK
      obtain ⟨o1, o2, o3, o4⟩ := hG
      obtain ⟨_, hf, rfl⟩ := got (hd 0 (by kernel_rfl)) hf
      obtain ⟨_, hf, rfl⟩ := got (hd 1 (by kernel_rfl)) hf
      obtain ⟨ad6, hl6⟩ := Ow.ce (d := cProd) o4 zProd hc5.1 hc5.2
      exact dv_ hK hw (wn rfl) (r_idx Try.underlying26 sz78 hf rfl hl6.at_ rfl hc5.1 hc5.2) (ex_ <| an_ rfl <| hl6)
    · intro ρ w a hw hG hf hd K hK
      obtain ⟨o1, o2, o3, o4⟩ := hG
      obtain ⟨_, hf, ⟨ad6, rfl, hl6⟩⟩ := got (hd 2 (by kernel_rfl)) hf
      exact dv_ hK hw (wn rfl) (r_load_agg ty78 hf rfl hl6.co.cl (cProd.len _)) rfl
    · intro ρ w a hw hG hf hd K hK
      obtain ⟨o1, o2, o3, o4⟩ := hG
      obtain ⟨_, hf, rfl⟩ := got (hd 3 (by kernel_rfl)) hf
      refine dc_ hK hw (wn rfl) (r_fn en87 hf rfl) (impl_factors_ok  hx8) fun v w' hΦ => ?_
      obtain ⟨hb, hΦ⟩ := hΦ
      obtain rfl := hΦ
      have hE := Ext.new (ρ := ρ) 6 hb
      exact ⟨_, hw.new 6 hb, hE, rfl⟩
    · intro ρ w a hw hG hf hd K hK
      obtain ⟨o1, o2, o3, o4⟩ := hG
      exact dv_ hK hw (wn rfl) (r_move hf rfl) rfl
    · intro ρ w a hw hG hf hd K hK
      obtain ⟨o1, o2, o3, o4⟩ := hG
      exact dv_ hK hw (wn rfl) (r_move hf rfl) rfl
    · intro ρ w a hw hG hf hd K hK
      obtain ⟨o1, o2, o3, o4⟩ := hG
      obtain ⟨_, hf, rfl⟩ := got (hd 5 (by kernel_rfl)) hf
      obtain ⟨_, hf, rfl⟩ := got (hd 6 (by kernel_rfl)) hf
      obtain ⟨ad10, hl10⟩ := Ow.ce (d := cProd) o4 zProd hc9.1 hc9.2
      exact dv_ hK hw (wn rfl) (r_idx Try.underlying26 sz78 hf rfl hl10.at_ rfl hc9.1 hc9.2) (ex_ <| an_ rfl <| hl10)
    · intro ρ w a hw hG hf hd K hK
      obtain ⟨o1, o2, o3, o4⟩ := hG
      obtain ⟨_, hf, ⟨ad10, rfl, hl10⟩⟩ := got (hd 7 (by kernel_rfl)) hf
      exact dv_ hK hw (wn rfl) (r_load_agg ty78 hf rfl hl10.co.cl (cProd.len _)) rfl
    · intro ρ w a hw hG hf hd K hK
      obtain ⟨o1, o2, o3, o4⟩ := hG
      obtain ⟨_, hf, rfl⟩ := got (hd 8 (by kernel_rfl)) hf
      refine dc_ hK hw (wn rfl) (r_fn en87 hf rfl) (impl_factors_ok  hx12) fun v w' hΦ => ?_
      obtain ⟨hb, hΦ⟩ := hΦ
      obtain rfl := hΦ
      have hE := Ext.new (ρ := ρ) 8 hb
      exact ⟨_, hw.new 8 hb, hE, rfl⟩
    · intro ρ w a hw hG hf hd K hK
      obtain ⟨o1, o2, o3, o4⟩ := hG
      refine dx_ hK hw (wn rfl) (r_alloc (cs := cForms.enc zForms) 9 ze91 rfl hw) fun v w' hΦ => ?_
      obtain ⟨g9, ρ, rfl, hw, hE, o9⟩ := hΦ
      exact ⟨_, hw, hE, ex_ <| an_ rfl <| o9⟩
    · intro ρ w a hw hG hf hd K hK
      obtain ⟨o1, o2, o3, o4⟩ := hG
      refine dx_ hK hw (wn rfl) (r_alloc (cs := cForms.enc zForms) 10 ze91 rfl hw) fun v w' hΦ => ?_
      obtain ⟨g10, ρ, rfl, hw, hE, o10⟩ := hΦ
      exact ⟨_, hw, hE, ex_ <| an_ rfl <| o10⟩
  intro ρ w a hw hG hf hd
  obtain ⟨o1, o2, o3, o4⟩ := hG
  obtain ⟨_, hf, rfl⟩ := got (hd 4 (by decide)) hf
  obtain ⟨_, hf, rfl⟩ := got (hd 9 (by decide)) hf
  obtain ⟨_, hf, ⟨g9, rfl, o9⟩⟩ := got (hd 10 (by decide)) hf
  obtain ⟨_, hf, ⟨g10, rfl, o10⟩⟩ := got (hd 11 (by decide)) hf
  refine sk_ hf (r_store_w (cs' := cForms.enc x7) hw o9 (by decide) ty91 (cForms.len _) (cForms.len _) (cForms.one _) hf rfl rfl rfl) fun a w hf hΦ => ?_
  obtain ⟨hw, hA, o9⟩ := hΦ
  replace o1 := o1.adv hA (by decide)
  replace o2 := o2.adv hA (by decide)
  replace o3 := o3.adv hA (by decide)
  replace o4 := o4.adv hA (by decide)
  replace o10 := o10.adv hA (by decide)
  refine sk_ hf (r_store_w (cs' := cForms.enc x11) hw o10 (by decide) ty91 (cForms.len _) (cForms.len _) (cForms.one _) hf rfl rfl rfl) fun a w hf hΦ => ?_
  obtain ⟨hw, hA, o10⟩ := hΦ
  replace o1 := o1.adv hA (by decide)
  replace o2 := o2.adv hA (by decide)
  replace o3 := o3.adv hA (by decide)
  replace o4 := o4.adv hA (by decide)
  replace o9 := o9.adv hA (by decide)
  refine c_nt <| c_seq <| c_region ?_
  refine s_ hf (r_move hf rfl) fun a hf => ?_
  refine s_ hf (r_add hf rfl rfl) fun a hf => ?_
  refine s_ hf (r_rem hf rfl rfl (by decide)) fun a hf => ?_
  refine s_ hf (r_move hf rfl) fun a hf => ?_
  refine s_ hf (r_add hf rfl rfl) fun a hf => ?_
  refine s_ hf (r_rem hf rfl rfl (by decide)) fun a hf => ?_
  refine s_ hf (r_assign hf rfl) fun a hf => ?_
  refine s_ hf (r_assign hf rfl) fun a hf => ?_
  refine c_nt <| c_seq ?_
  obtain ⟨hc13, hF⟩ := of_guard hF
  obtain ⟨x14, hx15, hF⟩ := of_bind hF
  replace hf : Fr 76 a [(1, vI a1), (2, vI a2), (4, vI a4), (5, .pointer (some ((⟨g1, 0, none⟩ : Addr).add 0))), (10, .pointer (some ((⟨g2, 0, none⟩ : Addr).add 0))), (11, u3), (12, .pointer (some ((⟨g9, 0, none⟩ : Addr).add 0))), (13, .pointer (some ((⟨g10, 0, none⟩ : Addr).add 0))), (14, vI ((w64 (a3 + 1)).tmod 3)), (15, vI ((w64 (a3 + 2)).tmod 3))] := hf.sub ⟨rfl, rfl, rfl, rfl, rfl, rfl, rfl, rfl, rfl, rfl, trivial⟩
  refine c_drawL (h := 11) mixed (by kernel_rfl) (by kernel_rfl) (fun ρ w => Va ρ w 1 g1 28 ([vI a0.p, vI a0.n, vI a0.m, vI a0.k, va0]) ∧ Va ρ w 2 g2 28 ([vI 0, vI 0, vI 0, vI 0, (.slice none 0 0)]) ∧ O78 ρ w w0 3 (.slice none 0 0) ([] : List Prod) ∧ O78 ρ w w0 4 u3 x1 ∧ Va ρ w 9 g9 91 (cForms.enc x7) ∧ Va ρ w 10 g10 91 (cForms.enc x11)) ?_ [fun ρ w v => vI ((w64 (a3 + 1)).tmod 3) = v, fun ρ w v => .pointer (some ((⟨g1, 0, none⟩ : Addr).add (0 + 0))) = v, fun ρ w v => vI a0.p = v, fun ρ w v => vI ((w64 (a3 + 1)).tmod 3) = v, fun ρ w v => .pointer (some ((⟨g9, 0, none⟩ : Addr).add (0 + ((w64 (a3 + 1)).tmod 3).toNat * 9))) = v, fun ρ w v => .agg (cForm.enc (vg zForm x7 ((w64 (a3 + 1)).tmod 3))).toArray = v, fun ρ w v => vI ((w64 (a3 + 1)).tmod 3) = v, fun ρ w v => .pointer (some ((⟨g10, 0, none⟩ : Addr).add (0 + ((w64 (a3 + 1)).tmod 3).toNat * 9))) = v, fun ρ w v => .agg (cForm.enc (vg zForm x11 ((w64 (a3 + 1)).tmod 3))).toArray = v, fun ρ w v => vI a4 = v, fun ρ w v => .agg (cForm.enc x14).toArray = v] ?_ hw ⟨o1, o2, o3, o4, o9, o10⟩ hf ?_ ?_
  · intro ρ w ρ' w' hE hG
    obtain ⟨o1, o2, o3, o4, o9, o10⟩ := hG
    exact ⟨o1.ext hE, o2.ext hE, o3.ext hE, o4.ext hE, o9.ext hE, o10.ext hE⟩
  · exact LastsL.cons (fun _ _ _ _ _ _ h => h) <| LastsL.cons (fun _ _ _ _ _ _ h => h) <| LastsL.cons (fun _ _ _ _ _ _ h => h) <| LastsL.cons (fun _ _ _ _ _ _ h => h) <| LastsL.cons (fun _ _ _ _ _ _ h => h) <| LastsL.cons (fun _ _ _ _ _ _ h => h) <| LastsL.cons (fun _ _ _ _ _ _ h => h) <| LastsL.cons (fun _ _ _ _ _ _ h => h) <| LastsL.cons (fun _ _ _ _ _ _ h => h) <| LastsL.cons (fun _ _ _ _ _ _ h => h) <| LastsL.cons (fun _ _ _ _ _ _ h => h) <| LastsL.nil
  · refine StepsB.cons ?_ <| StepsB.cons ?_ <| StepsB.cons ?_ <| StepsB.cons ?_ <| StepsB.cons ?_ <| StepsB.cons ?_ <| StepsB.cons ?_ <| StepsB.cons ?_ <| StepsB.cons ?_ <| StepsB.cons ?_ <| StepsB.cons ?_ <| StepsB.nil
    · intro ρ w a hw hG hf hd K hK
      obtain ⟨o1, o2, o3, o4, o9, o10⟩ := hG
      exact dv_ hK hw (wn rfl) (r_move hf rfl) rfl
    · intro ρ w a hw hG hf hd K hK
      obtain ⟨o1, o2, o3, o4, o9, o10⟩ := hG
      exact dv_ hK hw (wn rfl) (r_fa fa28_0 hf rfl) rfl
    · intro ρ w a hw hG hf hd K hK
      obtain ⟨o1, o2, o3, o4, o9, o10⟩ := hG
      obtain ⟨_, hf, rfl⟩ := got (hd 1 (by kernel_rfl)) hf
      exact dv_ hK hw (wn rfl) (r_load_cell ty2 hf rfl (o1.cl.at_ 0 _ rfl)) rfl
    · intro ρ w a hw hG hf hd K hK
      obtain ⟨o1, o2, o3, o4, o9, o10⟩ := hG
      exact dv_ hK hw (wn rfl) (r_move hf rfl) rfl
    · intro ρ w a hw hG hf hd K hK
      obtain ⟨o1, o2, o3, o4, o9, o10⟩ := hG
      obtain ⟨_, hf, rfl⟩ := got (hd 3 (by kernel_rfl)) hf
      exact dv_ hK hw (wn rfl) (r_indexAddr_arr Try.underlying91 sz39 hf rfl rfl hc13.1 hc13.2) rfl
    · intro ρ w a hw hG hf hd K hK
      obtain ⟨o1, o2, o3, o4, o9, o10⟩ := hG
      obtain ⟨_, hf, rfl⟩ := got (hd 4 (by kernel_rfl)) hf
      exact dv_ hK hw (wn rfl) (r_load_agg ty39 hf rfl (o9.cl.lens (Lens.vec zForm cForm ((w64 (a3 + 1)).tmod 3) hc13.1 hc13.2)) (cForm.len _)) rfl
    · intro ρ w a hw hG hf hd K hK
      obtain ⟨o1, o2, o3, o4, o9, o10⟩ := hG
      exact dv_ hK hw (wn rfl) (r_move hf rfl) rfl
    · intro ρ w a hw hG hf hd K hK
      obtain ⟨o1, o2, o3, o4, o9, o10⟩ := hG
      obtain ⟨_, hf, rfl⟩ := got (hd 6 (by kernel_rfl)) hf
      exact dv_ hK hw (wn rfl) (r_indexAddr_arr Try.underlying91 sz39 hf rfl rfl hc13.1 hc13.2) rfl
    · intro ρ w a hw hG hf hd K hK
      obtain ⟨o1, o2, o3, o4, o9, o10⟩ := hG
      obtain ⟨_, hf, rfl⟩ := got (hd 7 (by kernel_rfl)) hf
      exact dv_ hK hw (wn rfl) (r_load_agg ty39 hf rfl (o10.cl.lens (Lens.vec zForm cForm ((w64 (a3 + 1)).tmod 3) hc13.1 hc13.2)) (cForm.len _)) rfl
    · intro ρ w a hw hG hf hd K hK
      obtain ⟨o1, o2, o3, o4, o9, o10⟩ := hG
      exact dv_ hK hw (wn rfl) (r_move hf rfl) rfl
    · intro ρ w a hw hG hf hd K hK
      obtain ⟨o1, o2, o3, o4, o9, o10⟩ := hG
      obtain ⟨_, hf, rfl⟩ := got (hd 2 (by kernel_rfl)) hf
      obtain ⟨_, hf, rfl⟩ := got (hd 5 (by kernel_rfl)) hf
      obtain ⟨_, hf, rfl⟩ := got (hd 8 (by kernel_rfl)) hf
      obtain ⟨_, hf, rfl⟩ := got (hd 9 (by kernel_rfl)) hf
      refine dc_ hK hw (wn rfl) (r_fn en77 hf rfl) (impl_sum_ok  hx15) fun v w' hΦ => ?_
      obtain ⟨hb, hΦ⟩ := hΦ
      obtain rfl := hΦ
      have hE := Ext.new (ρ := ρ) 11 hb
      exact ⟨_, hw.new 11 hb, hE, rfl⟩
  intro ρ w a hw hG hf hd
  obtain ⟨o1, o2, o3, o4, o9, o10⟩ := hG
  obtain ⟨_, hf, rfl⟩ := got (hd 0 (by decide)) hf
  obtain ⟨_, hf, rfl⟩ := got (hd 10 (by decide)) hf
  refine s_ hf (r_indexAddr_arr Try.underlying91 sz39 hf rfl rfl hc13.1 hc13.2) fun a hf => ?_
  refine sk_ hf (r_store_l (b := x14) hw o9 (by decide) (Lens.vec zForm cForm ((w64 (a3 + 1)).tmod 3) hc13.1 hc13.2) (by simp only [Nat.zero_add] <;> rfl) ty39 hf rfl rfl rfl) fun a w hf hΦ => ?_
  obtain ⟨hw, hA, o9⟩ := hΦ
  replace o1 := o1.adv hA (by decide)
  replace o2 := o2.adv hA (by decide)
  replace o3 := o3.adv hA (by decide)
  replace o4 := o4.adv hA (by decide)
  replace o10 := o10.adv hA (by decide)
  refine c_nt <| c_seq ?_
  obtain ⟨hc16, hF⟩ := of_guard hF
  obtain ⟨x17, hx18, hF⟩ := of_bind hF
  replace hf : Fr 76 a [(1, vI a1), (2, vI a2), (4, vI a4), (5, .pointer (some ((⟨g1, 0, none⟩ : Addr).add 0))), (10, .pointer (some ((⟨g2, 0, none⟩ : Addr).add 0))), (11, u3), (12, .pointer (some ((⟨g9, 0, none⟩ : Addr).add 0))), (13, .pointer (some ((⟨g10, 0, none⟩ : Addr).add 0))), (15, vI ((w64 (a3 + 2)).tmod 3))] := hf.sub ⟨rfl, rfl, rfl, rfl, rfl, rfl, rfl, rfl, rfl, trivial⟩
  refine c_drawL (h := 14) mixed (by kernel_rfl) (by kernel_rfl) (fun ρ w => Va ρ w 1 g1 28 ([vI a0.p, vI a0.n, vI a0.m, vI a0.k, va0]) ∧ Va ρ w 2 g2 28 ([vI 0, vI 0, vI 0, vI 0, (.slice none 0 0)]) ∧ O78 ρ w w0 3 (.slice none 0 0) ([] : List Prod) ∧ O78 ρ w w0 4 u3 x1 ∧ Va ρ w 9 g9 91 (cForms.enc (vs x7 ((w64 (a3 + 1)).tmod 3) x14)) ∧ Va ρ w 10 g10 91 (cForms.enc x11)) ?_ [fun ρ w v => vI ((w64 (a3 + 2)).tmod 3) = v, fun ρ w v => .pointer (some ((⟨g1, 0, none⟩ : Addr).add (0 + 0))) = v, fun ρ w v => vI a0.p = v, fun ρ w v => vI ((w64 (a3 + 2)).tmod 3) = v, fun ρ w v => .pointer (some ((⟨g10, 0, none⟩ : Addr).add (0 + ((w64 (a3 + 2)).tmod 3).toNat * 9))) = v, fun ρ w v => .agg (cForm.enc (vg zForm x11 ((w64 (a3 + 2)).tmod 3))).toArray = v, fun ρ w v => vI ((w64 (a3 + 2)).tmod 3) = v, fun ρ w v => .pointer (some ((⟨g9, 0, none⟩ : Addr).add (0 + ((w64 (a3 + 2)).tmod 3).toNat * 9))) = v, fun ρ w v => .agg (cForm.enc (vg zForm (vs x7 ((w64 (a3 + 1)).tmod 3) x14) ((w64 (a3 + 2)).tmod 3))).toArray = v, fun ρ w v => .pointer (some ((⟨g1, 0, none⟩ : Addr).add (0 + 0))) = v, fun ρ w v => vI a0.p = v, fun ρ w v => vI a4 = v, fun ρ w v => vI (w64 (a0.p - a4)) = v, fun ρ w v => .agg (cForm.enc x17).toArray = v] ?_ hw ⟨o1, o2, o3, o4, o9, o10⟩ hf ?_ ?_
  · intro ρ w ρ' w' hE hG
    obtain ⟨o1, o2, o3, o4, o9, o10⟩ := hG
    exact ⟨o1.ext hE, o2.ext hE, o3.ext hE, o4.ext hE, o9.ext hE, o10.ext hE⟩
  · exact LastsL.cons (fun _ _ _ _ _ _ h => h) <| LastsL.cons (fun _ _ _ _ _ _ h => h) <| LastsL.cons (fun _ _ _ _ _ _ h => h) <| LastsL.cons (fun _ _ _ _ _ _ h => h) <| LastsL.cons (fun _ _ _ _ _ _ h => h) <| LastsL.cons (fun _ _ _ _ _ _ h => h) <| LastsL.cons (fun _ _ _ _ _ _ h => h) <| LastsL.cons (fun _ _ _ _ _ _ h => h) <| LastsL.cons (fun _ _ _ _ _ _ h => h) <| LastsL.cons (fun _ _ _ _ _ _ h => h) <| LastsL.cons (fun _ _ _ _ _ _ h => h) <| LastsL.cons (fun _ _ _ _ _ _ h => h) <| LastsL.cons (fun _ _ _ _ _ _ h => h) <| LastsL.cons (fun _ _ _ _ _ _ h => h) <| LastsL.nil
  · refine StepsB.cons ?_ <| StepsB.cons ?_ <| StepsB.cons ?_ <| StepsB.cons ?_ <| StepsB.cons ?_ <| StepsB.cons ?_ <| StepsB.cons ?_ <| StepsB.cons ?_ <| StepsB.cons ?_ <| StepsB.cons ?_ <| StepsB.cons ?_ <| StepsB.cons ?_ <| StepsB.cons ?_ <| StepsB.cons ?_ <| StepsB.nil
    · intro ρ w a hw hG hf hd K hK
      obtain ⟨o1, o2, o3, o4, o9, o10⟩ := hG
      exact dv_ hK hw (wn rfl) (r_move hf rfl) rfl
    · intro ρ w a hw hG hf hd K hK
      obtain ⟨o1, o2, o3, o4, o9, o10⟩ := hG
      exact dv_ hK hw (wn rfl) (r_fa fa28_0 hf rfl) rfl
    · intro ρ w a hw hG hf hd K hK
      obtain ⟨o1, o2, o3, o4, o9, o10⟩ := hG
      obtain ⟨_, hf, rfl⟩ := got (hd 1 (by kernel_rfl)) hf
      exact dv_ hK hw (wn rfl) (r_load_cell ty2 hf rfl (o1.cl.at_ 0 _ rfl)) rfl
    · intro ρ w a hw hG hf hd K hK
      obtain ⟨o1, o2, o3, o4, o9, o10⟩ := hG
      exact dv_ hK hw (wn rfl) (r_move hf rfl) rfl
    · intro ρ w a hw hG hf hd K hK
      obtain ⟨o1, o2, o3, o4, o9, o10⟩ := hG
      obtain ⟨_, hf, rfl⟩ := got (hd 3 (by kernel_rfl)) hf
      exact dv_ hK hw (wn rfl) (r_indexAddr_arr Try.underlying91 sz39 hf rfl rfl hc16.1 hc16.2) rfl
    · intro ρ w a hw hG hf hd K hK
      obtain ⟨o1, o2, o3, o4, o9, o10⟩ := hG
      obtain ⟨_, hf, rfl⟩ := got (hd 4 (by kernel_rfl)) hf
      exact dv_ hK hw (wn rfl) (r_load_agg ty39 hf rfl (o10.cl.lens (Lens.vec zForm cForm ((w64 (a3 + 2)).tmod 3) hc16.1 hc16.2)) (cForm.len _)) rfl
    · intro ρ w a hw hG hf hd K hK
      obtain ⟨o1, o2, o3, o4, o9, o10⟩ := hG
      exact dv_ hK hw (wn rfl) (r_move hf rfl) rfl
    · intro ρ w a hw hG hf hd K hK
      obtain ⟨o1, o2, o3, o4, o9, o10⟩ := hG
      obtain ⟨_, hf, rfl⟩ := got (hd 6 (by kernel_rfl)) hf
      exact dv_ hK hw (wn rfl) (r_indexAddr_arr Try.underlying91 sz39 hf rfl rfl hc16.1 hc16.2) rfl
    · intro ρ w a hw hG hf hd K hK
      obtain ⟨o1, o2, o3, o4, o9, o10⟩ := hG
      obtain ⟨_, hf, rfl⟩ := got (hd 7 (by kernel_rfl)) hf
      exact dv_ hK hw (wn rfl) (r_load_agg ty39 hf rfl (o9.cl.lens (Lens.vec zForm cForm ((w64 (a3 + 2)).tmod 3) hc16.1 hc16.2)) (cForm.len _)) rfl
    · intro ρ w a hw hG hf hd K hK
      obtain ⟨o1, o2, o3, o4, o9, o10⟩ := hG
      exact dv_ hK hw (wn rfl) (r_fa fa28_0 hf rfl) rfl
    · intro ρ w a hw hG hf hd K hK
      obtain ⟨o1, o2, o3, o4, o9, o10⟩ := hG
      obtain ⟨_, hf, rfl⟩ := got (hd 9 (by kernel_rfl)) hf
      exact dv_ hK hw (wn rfl) (r_load_cell ty2 hf rfl (o1.cl.at_ 0 _ rfl)) rfl
    · intro ρ w a hw hG hf hd K hK
      obtain ⟨o1, o2, o3, o4, o9, o10⟩ := hG
      exact dv_ hK hw (wn rfl) (r_move hf rfl) rfl
    · intro ρ w a hw hG hf hd K hK
      obtain ⟨o1, o2, o3, o4, o9, o10⟩ := hG
      obtain ⟨_, hf, rfl⟩ := got (hd 10 (by kernel_rfl)) hf
      obtain ⟨_, hf, rfl⟩ := got (hd 11 (by kernel_rfl)) hf
      exact dv_ hK hw (wn rfl) (r_sub hf rfl rfl) rfl
    · intro ρ w a hw hG hf hd K hK
      obtain ⟨o1, o2, o3, o4, o9, o10⟩ := hG
      obtain ⟨_, hf, rfl⟩ := got (hd 2 (by kernel_rfl)) hf
      obtain ⟨_, hf, rfl⟩ := got (hd 5 (by kernel_rfl)) hf
      obtain ⟨_, hf, rfl⟩ := got (hd 8 (by kernel_rfl)) hf
      obtain ⟨_, hf, rfl⟩ := got (hd 12 (by kernel_rfl)) hf
      refine dc_ hK hw (wn rfl) (r_fn en77 hf rfl) (impl_sum_ok  hx18) fun v w' hΦ => ?_
      obtain ⟨hb, hΦ⟩ := hΦ
      obtain rfl := hΦ
      have hE := Ext.new (ρ := ρ) 12 hb
      exact ⟨_, hw.new 12 hb, hE, rfl⟩
  intro ρ w a hw hG hf hd
  obtain ⟨o1, o2, o3, o4, o9, o10⟩ := hG
  obtain ⟨_, hf, rfl⟩ := got (hd 0 (by decide)) hf
  obtain ⟨_, hf, rfl⟩ := got (hd 13 (by decide)) hf
  refine s_ hf (r_indexAddr_arr Try.underlying91 sz39 hf rfl rfl hc16.1 hc16.2) fun a hf => ?_
  refine sk_ hf (r_store_l (b := x17) hw o10 (by decide) (Lens.vec zForm cForm ((w64 (a3 + 2)).tmod 3) hc16.1 hc16.2) (by simp only [Nat.zero_add] <;> rfl) ty39 hf rfl rfl rfl) fun a w hf hΦ => ?_
  obtain ⟨hw, hA, o10⟩ := hΦ
  replace o1 := o1.adv hA (by decide)
  replace o2 := o2.adv hA (by decide)
  replace o3 := o3.adv hA (by decide)
  replace o4 := o4.adv hA (by decide)
  replace o9 := o9.adv hA (by decide)
  refine c_nt <| c_seq ?_
  obtain ⟨x19, hx20, hF⟩ := of_bind hF
  obtain ⟨x21, hx22, hF⟩ := of_bind hF
  replace hf : Fr 76 a [(1, vI a1), (2, vI a2), (5, .pointer (some ((⟨g1, 0, none⟩ : Addr).add 0))), (10, .pointer (some ((⟨g2, 0, none⟩ : Addr).add 0))), (11, u3), (12, .pointer (some ((⟨g9, 0, none⟩ : Addr).add 0))), (13, .pointer (some ((⟨g10, 0, none⟩ : Addr).add 0)))] := hf.sub ⟨rfl, rfl, rfl, rfl, rfl, rfl, rfl, trivial⟩
  refine c_stage 10 [9] mixed (by kernel_rfl) (by kernel_rfl) (fun c ρ w => Va ρ w 1 g1 28 ([vI a0.p, vI a0.n, vI a0.m, vI a0.k, va0]) ∧ Va ρ w 2 g2 28 ([vI 0, vI 0, vI 0, vI 0, (.slice none 0 0)]) ∧ O78 ρ w w0 3 (.slice none 0 0) ([] : List Prod) ∧ Va ρ w 9 g9 91 (cForms.enc (vs x7 ((w64 (a3 + 1)).tmod 3) x14)) ∧ Va ρ w 10 g10 91 (cForms.enc (vs x11 ((w64 (a3 + 2)).tmod 3) x17)) ∧ (c ≤ 0 → O78 ρ w w0 4 u3 x1) ∧ (0 < c → O78 ρ w w0 4 u3 (x1.set a1.toNat x19))) ?_ [fun c ρ w v => u3 = v, fun c ρ w v => vI a1 = v, fun c ρ w v => u3 = v, fun c ρ w v => vI a2 = v, fun c ρ w v => .agg (cForms.enc (vs x7 ((w64 (a3 + 1)).tmod 3) x14)).toArray = v, fun c ρ w v => .agg (cProd.enc x19).toArray = v, fun c ρ w v => .agg (cForms.enc (vs x11 ((w64 (a3 + 2)).tmod 3) x17)).toArray = v, fun c ρ w v => .agg (cProd.enc x21).toArray = v, fun c ρ w v => ∃ ad23, .pointer (some (ad23.add (a1.toNat * 27))) = v ∧ (c ≤ 0 → Ce ρ w 4 u3 x1.length ad23 (a1.toNat * 27) (cProd.enc (gl zProd x1 a1))), fun _ _ _ _ => True] ?_ hw ⟨o1, o2, o3, o9, o10, (fun _ => o4), (fun h => absurd h (Nat.not_lt_zero _))⟩ hf ?_ ?_
  · intro c ρ w ρ' w' hE hG
    obtain ⟨o1, o2, o3, o9, o10, o4x, o4y⟩ := hG
    exact ⟨o1.ext hE, o2.ext hE, o3.ext hE, o9.ext hE, o10.ext hE, (fun h => (o4x h).ext hE), (fun h => by obtain o4 := o4y h; exact o4.ext hE)⟩
  · exact LastsS.cons (fun _ _ _ _ _ _ _ h => h) <| LastsS.cons (fun _ _ _ _ _ _ _ h => h) <| LastsS.cons (fun _ _ _ _ _ _ _ h => h) <| LastsS.cons (fun _ _ _ _ _ _ _ h => h) <| LastsS.cons (fun _ _ _ _ _ _ _ h => h) <| LastsS.cons (fun _ _ _ _ _ _ _ h => h) <| LastsS.cons (fun _ _ _ _ _ _ _ h => h) <| LastsS.cons (fun _ _ _ _ _ _ _ h => h) <| LastsS.cons (fun c _ _ _ _ _ hE h => by obtain ⟨ad23, h, hl23⟩ := h; exact ⟨_, h, (fun h => (hl23 h).ext hE)⟩) <| LastsS.cons (fun _ _ _ _ _ _ _ h => h) <| LastsS.nil
  · refine StepsS.float rfl ?_ <| StepsS.float rfl ?_ <| StepsS.float rfl ?_ <| StepsS.float rfl ?_ <| StepsS.float rfl ?_ <| StepsS.float rfl ?_ <| StepsS.float rfl ?_ <| StepsS.float rfl ?_ <| StepsS.float rfl ?_ <| StepsS.main 0 rfl rfl ?_ <| StepsS.nil
    · intro c ρ w a hs hw hG hf hd K hK
      obtain ⟨o1, o2, o3, o9, o10, o4x, o4y⟩ := hG
      have o4 := o4x (hs 0 (by decide) (by kernel_rfl))
      exact dv_ hK hw (wn rfl) (r_move hf rfl) rfl
    · intro c ρ w a hs hw hG hf hd K hK
      obtain ⟨o1, o2, o3, o9, o10, o4x, o4y⟩ := hG
      have o4 := o4x (hs 0 (by decide) (by kernel_rfl))
      exact dv_ hK hw (wn rfl) (r_move hf rfl) rfl
    · intro c ρ w a hs hw hG hf hd K hK
      obtain ⟨o1, o2, o3, o9, o10, o4x, o4y⟩ := hG
      exact dv_ hK hw (wn rfl) (r_move hf rfl) rfl
    · intro c ρ w a hs hw hG hf hd K hK
      obtain ⟨o1, o2, o3, o9, o10, o4x, o4y⟩ := hG
      exact dv_ hK hw (wn rfl) (r_move hf rfl) rfl
    · intro c ρ w a hs hw hG hf hd K hK
      obtain ⟨o1, o2, o3, o9, o10, o4x, o4y⟩ := hG
      have o4 := o4x (hs 0 (by decide) (by kernel_rfl))
      exact dv_ hK hw (wn rfl) (r_load_agg ty91 hf rfl o9.cl (cForms.len _)) rfl
    · intro c ρ w a hs hw hG hf hd K hK
      obtain ⟨o1, o2, o3, o9, o10, o4x, o4y⟩ := hG
      have o4 := o4x (hs 0 (by decide) (by kernel_rfl))
      obtain ⟨_, ht4, rfl⟩ := hd 4 (by kernel_rfl) (by kernel_rfl)
      replace hf := hf.more ht4
      refine dc_ hK hw (wn rfl) (r_fn en88 hf rfl) (impl_productOf_ok  hx20) fun v w' hΦ => ?_
      obtain ⟨hb, hΦ⟩ := hΦ
      obtain rfl := hΦ
      have hE := Ext.new (ρ := ρ) 13 hb
      exact ⟨_, hw.new 13 hb, hE, rfl⟩
    · intro c ρ w a hs hw hG hf hd K hK
      obtain ⟨o1, o2, o3, o9, o10, o4x, o4y⟩ := hG
      have o4 := o4x (hs 0 (by decide) (by kernel_rfl))
      exact dv_ hK hw (wn rfl) (r_load_agg ty91 hf rfl o10.cl (cForms.len _)) rfl
    · intro c ρ w a hs hw hG hf hd K hK
      obtain ⟨o1, o2, o3, o9, o10, o4x, o4y⟩ := hG
      have o4 := o4x (hs 0 (by decide) (by kernel_rfl))
      obtain ⟨_, ht6, rfl⟩ := hd 6 (by kernel_rfl) (by kernel_rfl)
      replace hf := hf.more ht6
      refine dc_ hK hw (wn rfl) (r_fn en88 hf rfl) (impl_productOf_ok  hx22) fun v w' hΦ => ?_
      obtain ⟨hb, hΦ⟩ := hΦ
      obtain rfl := hΦ
      have hE := Ext.new (ρ := ρ) 14 hb
      exact ⟨_, hw.new 14 hb, hE, rfl⟩
    · intro c ρ w a hs hw hG hf hd K hK
      obtain ⟨o1, o2, o3, o9, o10, o4x, o4y⟩ := hG
      have o4 := o4x (hs 0 (by decide) (by kernel_rfl))
      obtain ⟨_, ht0, rfl⟩ := hd 0 (by kernel_rfl) (by kernel_rfl)
      replace hf := hf.more ht0
      obtain ⟨_, ht1, rfl⟩ := hd 1 (by kernel_rfl) (by kernel_rfl)
      replace hf := hf.more ht1
      obtain ⟨ad23, hl23⟩ := Ow.ce (d := cProd) o4 zProd hc5.1 hc5.2
      exact dv_ hK hw (wn rfl) (r_idx Try.underlying26 sz78 hf rfl hl23.at_ rfl hc5.1 hc5.2) (ex_ <| an_ rfl <| fun _ => hl23)
    · intro ρ w a S hw hG hf hS hdep hSi K hK
      obtain ⟨o1, o2, o3, o9, o10, o4x, o4y⟩ := hG
      have hfL := hf
      have o4 := o4x (by decide)
      obtain ⟨_, ht5, rfl⟩ := hS 5 (by decide) (hdep 5 (by kernel_rfl)) (by kernel_rfl)
      replace hf := hf.more ht5
      obtain ⟨_, ht8, ⟨ad23, rfl, hl23⟩⟩ := hS 8 (by decide) (hdep 8 (by kernel_rfl)) (by kernel_rfl)
      replace hl23 := hl23 (by decide)
      replace hf := hf.more ht8
      refine m_skip (Γ := fun c ρ w => Va ρ w 1 g1 28 ([vI a0.p, vI a0.n, vI a0.m, vI a0.k, va0]) ∧ Va ρ w 2 g2 28 ([vI 0, vI 0, vI 0, vI 0, (.slice none 0 0)]) ∧ O78 ρ w w0 3 (.slice none 0 0) ([] : List Prod) ∧ Va ρ w 9 g9 91 (cForms.enc (vs x7 ((w64 (a3 + 1)).tmod 3) x14)) ∧ Va ρ w 10 g10 91 (cForms.enc (vs x11 ((w64 (a3 + 2)).tmod 3) x17)) ∧ (c ≤ 0 → O78 ρ w w0 4 u3 x1) ∧ (0 < c → O78 ρ w w0 4 u3 (x1.set a1.toNat x19))) (Rl := [fun c ρ w v => u3 = v, fun c ρ w v => vI a1 = v, fun c ρ w v => u3 = v, fun c ρ w v => vI a2 = v, fun c ρ w v => .agg (cForms.enc (vs x7 ((w64 (a3 + 1)).tmod 3) x14)).toArray = v, fun c ρ w v => .agg (cProd.enc x19).toArray = v, fun c ρ w v => .agg (cForms.enc (vs x11 ((w64 (a3 + 2)).tmod 3) x17)).toArray = v, fun c ρ w v => .agg (cProd.enc x21).toArray = v, fun c ρ w v => ∃ ad23, .pointer (some (ad23.add (a1.toNat * 27))) = v ∧ (c ≤ 0 → Ce ρ w 4 u3 x1.length ad23 (a1.toNat * 27) (cProd.enc (gl zProd x1 a1))), fun _ _ _ _ => True]) hfL hS (by kernel_rfl) rfl (wn rfl) (r_store_ec (b := x19) zProd hw (by decide) o4 hc5.1 hc5.2 (Lens.id _) hl23.at_ ty78 (by first | rfl | exact Nat.add_assoc _ _ _ | (simp only [Nat.add_assoc]; rfl)) hf rfl rfl rfl) (fun w' hΦ => ?_) hK
      obtain ⟨hw, hA, o4⟩ := hΦ
      replace o1 := o1.adv hA (by decide)
      replace o2 := o2.adv hA (by decide)
      replace o3 := o3.adv hA (by decide)
      replace o9 := o9.adv hA (by decide)
      replace o10 := o10.adv hA (by decide)
      refine ⟨_, hw, ⟨o1, o2, o3, o9, o10, (fun h => absurd h (by decide)), (fun _ => o4)⟩, ?_⟩
      · exact PassL.cons (fun h => h) <| PassL.cons (fun h => h) <| PassL.cons (fun h => h) <| PassL.cons (fun h => h) <| PassL.cons (fun h => h) <| PassL.cons (fun h => h) <| PassL.cons (fun h => h) <| PassL.cons (fun h => h) <| PassL.cons (fun h => by obtain ⟨_, ht, ad23, h, hl23⟩ := h; exact ⟨_, ht, _, h, (fun h => absurd h (by decide))⟩) <| PassL.here <| PassL.nil
  intro ρ w a hw hG hf hd
  obtain ⟨o1, o2, o3, o9, o10, o4x, o4y⟩ := hG
  obtain o4 := o4y (by decide)
  obtain ⟨_, hf, rfl⟩ := got (hd 2 (by decide) (by kernel_rfl)) hf
  obtain ⟨_, hf, rfl⟩ := got (hd 3 (by decide) (by kernel_rfl)) hf
  obtain ⟨_, hf, rfl⟩ := got (hd 7 (by decide) (by kernel_rfl)) hf
  obtain ⟨hc24, hF⟩ := of_guard hF
  obtain ⟨ad25, hl25⟩ := Ow.ce (d := cProd) o4 zProd hc24.1 hc24.2
  refine s_ hf (r_idx Try.underlying26 sz78 hf rfl hl25.at_ rfl hc24.1 hc24.2) fun a hf => ?_
  refine sk_ hf (r_store_ec (b := x21) zProd hw (by decide) o4 hc24.1 hc24.2 (Lens.id _) hl25.at_ ty78 (by first | rfl | exact Nat.add_assoc _ _ _ | (simp only [Nat.add_assoc]; rfl)) hf rfl rfl rfl) fun a w hf hΦ => ?_
  obtain ⟨hw, hA, o4⟩ := hΦ
  replace o1 := o1.adv hA (by decide)
  replace o2 := o2.adv hA (by decide)
  replace o3 := o3.adv hA (by decide)
  replace o9 := o9.adv hA (by decide)
  replace o10 := o10.adv hA (by decide)
  refine c_nt <| c_seq ?_
  obtain ⟨x26, hx27, hF⟩ := of_bind hF
  replace hf : Fr 76 a [(5, .pointer (some ((⟨g1, 0, none⟩ : Addr).add 0))), (10, .pointer (some ((⟨g2, 0, none⟩ : Addr).add 0))), (11, u3)] := hf.sub ⟨rfl, rfl, rfl, trivial⟩
  refine c_stage 3 [2] mixed (by kernel_rfl) (by kernel_rfl) (fun c ρ w => Va ρ w 1 g1 28 ([vI a0.p, vI a0.n, vI a0.m, vI a0.k, va0]) ∧ Va ρ w 2 g2 28 ([vI 0, vI 0, vI 0, vI 0, (.slice none 0 0)]) ∧ O78 ρ w w0 3 (.slice none 0 0) ([] : List Prod) ∧ (c ≤ 0 → O78 ρ w w0 4 u3 ((x1.set a1.toNat x19).set a2.toNat x21))) ?_ [fun c ρ w v => .agg ([vI a0.p, vI a0.n, vI a0.m, vI a0.k, va0]).toArray = v, fun c ρ w v => u3 = v, fun c ρ w v => ∃ u28, u28 = v ∧ O78 ρ w w0 4 u28 x26] ?_ hw ⟨o1, o2, o3, (fun _ => o4)⟩ hf ?_ ?_
  · intro c ρ w ρ' w' hE hG
    obtain ⟨o1, o2, o3, o4x⟩ := hG
    exact ⟨o1.ext hE, o2.ext hE, o3.ext hE, (fun h => (o4x h).ext hE)⟩
  · exact LastsS.cons (fun _ _ _ _ _ _ _ h => h) <| LastsS.cons (fun _ _ _ _ _ _ _ h => h) <| LastsS.cons (fun c _ _ _ _ _ hE h => by obtain ⟨u28, h, o4⟩ := h; exact ⟨_, h, o4.ext hE⟩) <| LastsS.nil
  · refine StepsS.float rfl ?_ <| StepsS.float rfl ?_ <| StepsS.main 0 rfl rfl ?_ <| StepsS.nil
    · intro c ρ w a hs hw hG hf hd K hK
      obtain ⟨o1, o2, o3, o4x⟩ := hG
      exact dv_ hK hw (wn rfl) (r_load_agg ty28 hf rfl o1.cl rfl) rfl
    · intro c ρ w a hs hw hG hf hd K hK
      obtain ⟨o1, o2, o3, o4x⟩ := hG
      have o4 := o4x (hs 0 (by decide) (by kernel_rfl))
      exact dv_ hK hw (wn rfl) (r_move hf rfl) rfl
    · intro ρ w a S hw hG hf hS hdep hSi K hK
      obtain ⟨o1, o2, o3, o4x⟩ := hG
      have hfL := hf
      have o4 := o4x (by decide)
      obtain ⟨_, ht1, rfl⟩ := hS 1 (by decide) (hdep 1 (by kernel_rfl)) (by kernel_rfl)
      replace hf := hf.more ht1
      refine m_call (ms := [2]) (Γ := fun c ρ w => Va ρ w 1 g1 28 ([vI a0.p, vI a0.n, vI a0.m, vI a0.k, va0]) ∧ Va ρ w 2 g2 28 ([vI 0, vI 0, vI 0, vI 0, (.slice none 0 0)]) ∧ O78 ρ w w0 3 (.slice none 0 0) ([] : List Prod) ∧ (c ≤ 0 → O78 ρ w w0 4 u3 ((x1.set a1.toNat x19).set a2.toNat x21))) (Rl := [fun c ρ w v => .agg ([vI a0.p, vI a0.n, vI a0.m, vI a0.k, va0]).toArray = v, fun c ρ w v => u3 = v, fun c ρ w v => ∃ u28, u28 = v ∧ O78 ρ w w0 4 u28 x26]) hfL hS (by decide) rfl (by kernel_rfl) (by kernel_rfl) (wn rfl) rfl (r_fn en79 hf rfl) (impl_kept_ok (by decide) hw o4 hx27) (fun v w' hΦ => ?_) hK
      obtain ⟨ρ, hw, hA, hΦ⟩ := hΦ
      obtain ⟨u28, rfl, o4⟩ := hΦ
      replace o1 := o1.adv hA (by decide)
      replace o2 := o2.adv hA (by decide)
      replace o3 := o3.adv hA (by decide)
      refine ⟨_, hw, ⟨o1, o2, o3, (fun h => absurd h (by decide))⟩, ?_, ?_⟩
      · exact PassL.cons (fun h => h) <| PassL.cons (fun h => h) <| PassL.here <| PassL.nil
      · exact ⟨_, rfl, o4⟩
  intro ρ w a hw hG hf hd
  obtain ⟨o1, o2, o3, o4x⟩ := hG
  obtain ⟨_, hf, rfl⟩ := got (hd 0 (by decide) (by kernel_rfl)) hf
  obtain ⟨_, hf, ⟨u28, rfl, o4⟩⟩ := got (hd 2 (by decide) (by kernel_rfl)) hf
  obtain ⟨x29, hx30, hF⟩ := of_bind hF
  refine st_mfn hf rfl rfl (by decide) (r_fn en78 hf rfl) (impl_with_ok (a0 := a0) (by decide) hw h0 o4 hx30) fun a v w ρ hf hw hA hΦ => ?_
  obtain ⟨u31, rfl, o4⟩ := hΦ
  replace o1 := o1.adv hA (by decide)
  replace o2 := o2.adv hA (by decide)
  replace o3 := o3.adv hA (by decide)
  refine sk_ hf (r_store_w (cs' := [vI x29.p, vI x29.n, vI x29.m, vI x29.k, u31]) hw o2 (by decide) ty28 rfl rfl (one_sch o4.ro.one) hf rfl rfl rfl) fun a w hf hΦ => ?_
  obtain ⟨hw, hA, o2⟩ := hΦ
  replace o1 := o1.adv hA (by decide)
  replace o3 := o3.adv hA (by decide)
  replace o4 := o4.adv hA (by decide)
  refine c_nt <| c_retc ?_
  obtain rfl := Option.some.inj hF
  refine c_ret hf (res_cell Try.results90 ty28 hf rfl o2.cl rfl) ?_
  exact ⟨_, rfl, hw.below, ⟨_, rfl, o4.out⟩⟩
/-! f28 -/
noncomputable def impl_FlipProducts (a0 : Sch) (a1 : Int) (a2 : Int) (a3 : Int) (a4 : Int) : Option (Sch × Int) :=
  (impl_IsScheme a0).bind fun x1 => if (!x1) = true then (some (((⟨0, 0, 0, 0, ([] : List Prod)⟩ : Sch), 1))) else (((impl_isIndex a0 ([a1, a2])).bind fun x6 => if (!x6) = true then (some true) else (if (decide (a3 < 0)) = true then (some true) else (if (decide (2 < a3)) = true then (some true) else (if (decide (a4 < 1)) = true then (some true) else (some (decide (a0.p ≤ a4))))))).bind fun (s5 : Bool) => if s5 = true then (some (((⟨0, 0, 0, 0, ([] : List Prod)⟩ : Sch), 2))) else ((if (decide (a1 = a2)) = true then (some true) else (if 0 ≤ a1 ∧ a1 < (a0.ps.length : Int) then ((impl_factors (gl zProd a0.ps a1)).bind fun x18 => if 0 ≤ a3 ∧ a3 < 3 then (if 0 ≤ a2 ∧ a2 < (a0.ps.length : Int) then ((impl_factors (gl zProd a0.ps a2)).bind fun x23 => some (decide ((vg zForm x18 a3) ≠ (vg zForm x23 a3)))) else none) else none) else none)).bind fun (s14 : Bool) => if s14 = true then (some (((⟨0, 0, 0, 0, ([] : List Prod)⟩ : Sch), 5))) else ((impl_flip a0 a1 a2 a3 a4).bind fun x26 => some ((x26, 0)))))
theorem impl_FlipProducts_ok {w0 : World} {a0 : Sch} {a1 : Int} {a2 : Int} {a3 : Int} {a4 : Int} {va0 : Value} (h0 : Ro (kf cProd) w0 va0 a0.ps) {r : Sch × Int} (hF : impl_FlipProducts a0 a1 a2 a3 a4 = some r) :
    Calls Try.prog 28 [.agg ([vI a0.p, vI a0.n, vI a0.m, vI a0.k, va0]).toArray, vI a1, vI a2, vI a3, vI a4].toArray w0 fun e w => ∃ v, e = .returned v ∧ Below w0.heap.size w0 w ∧ ∃ u0, .tuple #[.agg [.int .i64 r.1.p, .int .i64 r.1.n, .int .i64 r.1.m, .int .i64 r.1.k, u0].toArray, .int .i64 r.2] = v ∧ Fresh (kf cProd) 78 w0 w u0 r.1.ps := by
  refine calls_of (k := 73) Try.func28 rfl rfl (Nat.le_of_ble_eq_true rfl) fun a hf => ?_
  replace hf : Fr 73 a [(0, .agg ([vI a0.p, vI a0.n, vI a0.m, vI a0.k, va0]).toArray), (1, vI a1), (2, vI a2), (3, vI a3), (4, vI a4)] := hf
  refine c_start fun w ρ hw => ?_
  unfold impl_FlipProducts at hF
  refine c_seq <| c_region ?_
  refine sx_ hf (r_box (cs := [vI a0.p, vI a0.n, vI a0.m, vI a0.k, va0]) 1 hw hf rfl rfl) fun a v w hf hΦ => ?_
  obtain ⟨g1, ρ, rfl, hw, hE, o1⟩ := hΦ
  have o3 : Ow (kf cProd) 78 ρ w w0.heap.size 3 (.slice none 0 0) [] := Ow.nil _ _ _ _ _ _
  refine sx_ hf (r_alloc (cs := [vI 0, vI 0, vI 0, vI 0, (.slice none 0 0)]) 2 ze28 rfl hw) fun a v w hf hΦ => ?_
  obtain ⟨g2, ρ, rfl, hw, hE, o2⟩ := hΦ
  replace o1 := o1.ext hE
  replace o3 := o3.ext hE
  refine s_ hf (r_assign hf rfl) fun a hf => ?_
  refine c_nt <| c_seq <| c_block <| c_seq <| c_region ?_
  refine s_ hf (r_load_agg ty28 hf rfl o1.cl rfl) fun a hf => ?_
  obtain ⟨x1, hx2, hF⟩ := of_bind hF
  refine st_fn 4 hw hf rfl rfl (by decide) (r_fn en74 hf rfl) (impl_IsScheme_ok (a0 := a0) (h0.now hw) hx2) fun a v w ρ hf hw hE hN hΦ => ?_
  obtain rfl := hΦ
  replace o1 := o1.ext hE
  replace o3 := o3.ext hE
  replace o2 := o2.ext hE
  refine s_ hf (r_not hf rfl) fun a hf => ?_
  refine s_ hf (r_assign hf rfl) fun a hf => ?_
  refine c_nt ?_
  rcases of_ite hF with ⟨hb3, hF⟩ | ⟨hb3, hF⟩
  · refine c_ift hf rfl hb3 <| c_seq <| c_region ?_
    have o5 : Ow (kf cProd) 78 ρ w w0.heap.size 5 (.slice none 0 0) [] := Ow.nil _ _ _ _ _ _
    refine s_ hf (r_build_struct (pl := [(0, 1), (1, 1), (2, 1), (3, 1), (4, 1)]) (vs := []) (res := ([vI 0, vI 0, vI 0, vI 0, (.slice none 0 0)]).toArray) Try.underlying28 (by kernel_rfl) ze28 hf rfl rfl rfl) fun a hf => ?_
    refine sk_ hf (r_store_w (cs' := [vI 0, vI 0, vI 0, vI 0, (.slice none 0 0)]) hw o2 (by decide) ty28 rfl rfl (one_sch o5.ro.one) hf rfl rfl rfl) fun a w hf hΦ => ?_
    obtain ⟨hw, hA, o2⟩ := hΦ
    replace o1 := o1.adv hA (by decide)
    replace o3 := o3.adv hA (by decide)
    replace o5 := o5.adv hA (by decide)
    refine s_ hf (r_assign hf rfl) fun a hf => ?_
    refine c_nt <| c_retc ?_
    obtain rfl := Option.some.inj hF
    refine r_block <| r_then <| c_ret hf (res_ct Try.results28 ty28 hf rfl o2.cl rfl rfl) ?_
    exact ⟨_, rfl, hw.below, ⟨_, rfl, o5.out⟩⟩
  refine c_iff hf rfl hb3 <| c_seq ?_
  obtain ⟨s5, hT4, hG4⟩ := of_bind hF
  clear hF
  refine c_meet (fun (s5 : Bool) a w => ∃ ρ, Wd w0 ρ w ∧ Fr 73 a [(1, vI a1), (2, vI a2), (3, vI a3), (4, vI a4), (5, .pointer (some ((⟨g1, 0, none⟩ : Addr).add 0))), (10, .pointer (some ((⟨g2, 0, none⟩ : Addr).add 0))), (17, .bool s5)] ∧ Va ρ w 1 g1 28 ([vI a0.p, vI a0.n, vI a0.m, vI a0.k, va0]) ∧ Va ρ w 2 g2 28 ([vI 0, vI 0, vI 0, vI 0, (.slice none 0 0)]) ∧ O78 ρ w w0 3 (.slice none 0 0) ([] : List Prod)) s5 ?_ ?_
  · have hF := hT4
    refine c_region ?_
    refine s_ hf (r_load_agg ty28 hf rfl o1.cl rfl) fun a hf => ?_
    refine s_ hf (r_move hf rfl) fun a hf => ?_
    refine s_ hf (r_move hf rfl) fun a hf => ?_
    refine sx_ hf (r_lit (d := fI64) (xs := ([a1, a2] : List Int)) (vs := [vI a1, vI a2]) 6 Try.underlying61 el2 (Nat.le_of_ble_eq_true rfl) (Nat.le_of_ble_eq_true rfl) hw hf rfl rfl rfl) fun a v6 w hf hΦ => ?_
    obtain ⟨ρ, hw, hE, o6⟩ := hΦ
    replace o1 := o1.ext hE
    replace o3 := o3.ext hE
    replace o2 := o2.ext hE
    obtain ⟨x6, hx7, hF⟩ := of_bind hF
    refine st_fn 7 hw hf rfl rfl (by decide) (r_fn en75 hf rfl) (impl_isIndex_ok (a0 := a0) (h0.now hw) o6.ro hx7) fun a v w ρ hf hw hE hN hΦ => ?_
    obtain rfl := hΦ
    replace o1 := o1.ext hE
    replace o3 := o3.ext hE
    replace o2 := o2.ext hE
    replace o6 := o6.ext hE
    refine s_ hf (r_not hf rfl) fun a hf => ?_
    refine s_ hf (r_move hf rfl) fun a hf => ?_
    rcases of_ite hF with ⟨hb8, hF⟩ | ⟨hb8, hF⟩
    · refine st_no (b := true) hf rfl rfl rfl hb8 rfl (by decide) fun a hf => ?_
      refine st_no (b := true) hf rfl rfl rfl hb8 rfl (by decide) fun a hf => ?_
      refine s_ hf (r_pick (b := true) hf rfl hb8 rfl) fun a hf => ?_
      refine s_ hf (r_move hf rfl) fun a hf => ?_
      refine st_no (b := true) hf rfl rfl rfl rfl rfl (by decide) fun a hf => ?_
      refine st_no (b := true) hf rfl rfl rfl rfl rfl (by decide) fun a hf => ?_
      refine s_ hf (r_pick (b := true) hf rfl rfl rfl) fun a hf => ?_
      refine s_ hf (r_move hf rfl) fun a hf => ?_
      refine st_no (b := true) hf rfl rfl rfl rfl rfl (by decide) fun a hf => ?_
      refine st_no (b := true) hf rfl rfl rfl rfl rfl (by decide) fun a hf => ?_
      refine s_ hf (r_pick (b := true) hf rfl rfl rfl) fun a hf => ?_
      refine s_ hf (r_move hf rfl) fun a hf => ?_
      refine st_no (b := true) hf rfl rfl rfl rfl rfl (by decide) fun a hf => ?_
      refine st_no (b := true) hf rfl rfl rfl rfl rfl (by decide) fun a hf => ?_
      refine st_no (b := true) hf rfl rfl rfl rfl rfl (by decide) fun a hf => ?_
      refine st_no (b := true) hf rfl rfl rfl rfl rfl (by decide) fun a hf => ?_
      refine s_ hf (r_pick (b := true) hf rfl rfl rfl) fun a hf => ?_
      refine s_ hf (r_assign hf rfl) fun a hf => ?_
      refine c_nil ⟨rfl, ?_⟩
      obtain rfl := Option.some.inj hF
      exact ⟨_, hw, hf.sub ⟨rfl, rfl, rfl, rfl, rfl, rfl, rfl, trivial⟩, o1, o2, o3⟩
    refine st_g (b := false) hf rfl rfl rfl hb8 rfl (by decide) (r_move hf rfl) fun a hf => ?_
    refine st_g (b := false) hf rfl rfl rfl hb8 rfl (by decide) (r_lss hf rfl rfl) fun a hf => ?_
    refine s_ hf (r_pick (b := false) hf rfl hb8 rfl) fun a hf => ?_
    refine s_ hf (r_move hf rfl) fun a hf => ?_
    rcases of_ite hF with ⟨hb9, hF⟩ | ⟨hb9, hF⟩
    · refine st_no (b := true) hf rfl rfl rfl hb9 rfl (by decide) fun a hf => ?_
      refine st_no (b := true) hf rfl rfl rfl hb9 rfl (by decide) fun a hf => ?_
      refine s_ hf (r_pick (b := true) hf rfl hb9 rfl) fun a hf => ?_
      refine s_ hf (r_move hf rfl) fun a hf => ?_
      refine st_no (b := true) hf rfl rfl rfl rfl rfl (by decide) fun a hf => ?_
      refine st_no (b := true) hf rfl rfl rfl rfl rfl (by decide) fun a hf => ?_
      refine s_ hf (r_pick (b := true) hf rfl rfl rfl) fun a hf => ?_
      refine s_ hf (r_move hf rfl) fun a hf => ?_
      refine st_no (b := true) hf rfl rfl rfl rfl rfl (by decide) fun a hf => ?_
      refine st_no (b := true) hf rfl rfl rfl rfl rfl (by decide) fun a hf => ?_
      refine st_no (b := true) hf rfl rfl rfl rfl rfl (by decide) fun a hf => ?_
      refine st_no (b := true) hf rfl rfl rfl rfl rfl (by decide) fun a hf => ?_
      refine s_ hf (r_pick (b := true) hf rfl rfl rfl) fun a hf => ?_
      refine s_ hf (r_assign hf rfl) fun a hf => ?_
      refine c_nil ⟨rfl, ?_⟩
      obtain rfl := Option.some.inj hF
      exact ⟨_, hw, hf.sub ⟨rfl, rfl, rfl, rfl, rfl, rfl, rfl, trivial⟩, o1, o2, o3⟩
    refine st_g (b := false) hf rfl rfl rfl hb9 rfl (by decide) (r_move hf rfl) fun a hf => ?_
    refine st_g (b := false) hf rfl rfl rfl hb9 rfl (by decide) (r_gtr hf rfl rfl) fun a hf => ?_
    refine s_ hf (r_pick (b := false) hf rfl hb9 rfl) fun a hf => ?_
    refine s_ hf (r_move hf rfl) fun a hf => ?_
    rcases of_ite hF with ⟨hb10, hF⟩ | ⟨hb10, hF⟩
    · refine st_no (b := true) hf rfl rfl rfl hb10 rfl (by decide) fun a hf => ?_
      refine st_no (b := true) hf rfl rfl rfl hb10 rfl (by decide) fun a hf => ?_
      refine s_ hf (r_pick (b := true) hf rfl hb10 rfl) fun a hf => ?_
      refine s_ hf (r_move hf rfl) fun a hf => ?_
      refine st_no (b := true) hf rfl rfl rfl rfl rfl (by decide) fun a hf => ?_
      refine st_no (b := true) hf rfl rfl rfl rfl rfl (by decide) fun a hf => ?_
      refine st_no (b := true) hf rfl rfl rfl rfl rfl (by decide) fun a hf => ?_
      refine st_no (b := true) hf rfl rfl rfl rfl rfl (by decide) fun a hf => ?_
      refine s_ hf (r_pick (b := true) hf rfl rfl rfl) fun a hf => ?_
      refine s_ hf (r_assign hf rfl) fun a hf => ?_
      refine c_nil ⟨rfl, ?_⟩
      obtain rfl := Option.some.inj hF
      exact ⟨_, hw, hf.sub ⟨rfl, rfl, rfl, rfl, rfl, rfl, rfl, trivial⟩, o1, o2, o3⟩
    refine st_g (b := false) hf rfl rfl rfl hb10 rfl (by decide) (r_move hf rfl) fun a hf => ?_
    refine st_g (b := false) hf rfl rfl rfl hb10 rfl (by decide) (r_lss hf rfl rfl) fun a hf => ?_
    refine s_ hf (r_pick (b := false) hf rfl hb10 rfl) fun a hf => ?_
    refine s_ hf (r_move hf rfl) fun a hf => ?_
    rcases of_ite hF with ⟨hb11, hF⟩ | ⟨hb11, hF⟩
    · refine st_no (b := true) hf rfl rfl rfl hb11 rfl (by decide) fun a hf => ?_
      refine st_no (b := true) hf rfl rfl rfl hb11 rfl (by decide) fun a hf => ?_
      refine st_no (b := true) hf rfl rfl rfl hb11 rfl (by decide) fun a hf => ?_
      refine st_no (b := true) hf rfl rfl rfl hb11 rfl (by decide) fun a hf => ?_
      refine s_ hf (r_pick (b := true) hf rfl hb11 rfl) fun a hf => ?_
      refine s_ hf (r_assign hf rfl) fun a hf => ?_
      refine c_nil ⟨rfl, ?_⟩
      obtain rfl := Option.some.inj hF
      exact ⟨_, hw, hf.sub ⟨rfl, rfl, rfl, rfl, rfl, rfl, rfl, trivial⟩, o1, o2, o3⟩
    refine st_g (b := false) hf rfl rfl rfl hb11 rfl (by decide) (r_move hf rfl) fun a hf => ?_
    refine st_g (b := false) hf rfl rfl rfl hb11 rfl (by decide) (r_fa fa28_0 hf rfl) fun a hf => ?_
    refine st_g (b := false) hf rfl rfl rfl hb11 rfl (by decide) (r_load_cell ty2 hf rfl (o1.cl.at_ 0 _ rfl)) fun a hf => ?_
    refine st_g (b := false) hf rfl rfl rfl hb11 rfl (by decide) (r_geq hf rfl rfl) fun a hf => ?_
    refine s_ hf (r_pick (b := false) hf rfl hb11 rfl) fun a hf => ?_
    refine s_ hf (r_assign hf rfl) fun a hf => ?_
    refine c_nil ⟨rfl, ?_⟩
    obtain rfl := Option.some.inj hF
    exact ⟨_, hw, hf.sub ⟨rfl, rfl, rfl, rfl, rfl, rfl, rfl, trivial⟩, o1, o2, o3⟩
  rintro a w ⟨ρ, hw, hf, o1, o2, o3⟩
  have hF := hG4
  refine n_then ?_
  rcases of_ite hF with ⟨hb12, hF⟩ | ⟨hb12, hF⟩
  · refine c_ift hf rfl hb12 <| c_seq <| c_region ?_
    have o8 : Ow (kf cProd) 78 ρ w w0.heap.size 8 (.slice none 0 0) [] := Ow.nil _ _ _ _ _ _
    refine s_ hf (r_build_struct (pl := [(0, 1), (1, 1), (2, 1), (3, 1), (4, 1)]) (vs := []) (res := ([vI 0, vI 0, vI 0, vI 0, (.slice none 0 0)]).toArray) Try.underlying28 (by kernel_rfl) ze28 hf rfl rfl rfl) fun a hf => ?_
    refine sk_ hf (r_store_w (cs' := [vI 0, vI 0, vI 0, vI 0, (.slice none 0 0)]) hw o2 (by decide) ty28 rfl rfl (one_sch o8.ro.one) hf rfl rfl rfl) fun a w hf hΦ => ?_
    obtain ⟨hw, hA, o2⟩ := hΦ
    replace o1 := o1.adv hA (by decide)
    replace o3 := o3.adv hA (by decide)
    replace o8 := o8.adv hA (by decide)
    refine s_ hf (r_assign hf rfl) fun a hf => ?_
    refine c_nt <| c_retc ?_
    obtain rfl := Option.some.inj hF
    refine r_block <| r_then <| c_ret hf (res_ct Try.results28 ty28 hf rfl o2.cl rfl rfl) ?_
    exact ⟨_, rfl, hw.below, ⟨_, rfl, o8.out⟩⟩
  refine c_iff hf rfl hb12 <| c_seq ?_
  obtain ⟨s14, hT13, hG13⟩ := of_bind hF
  clear hF
  refine c_meet (fun (s14 : Bool) a w => ∃ ρ, Wd w0 ρ w ∧ Fr 73 a [(1, vI a1), (2, vI a2), (3, vI a3), (4, vI a4), (5, .pointer (some ((⟨g1, 0, none⟩ : Addr).add 0))), (10, .pointer (some ((⟨g2, 0, none⟩ : Addr).add 0))), (43, .bool s14)] ∧ Va ρ w 1 g1 28 ([vI a0.p, vI a0.n, vI a0.m, vI a0.k, va0]) ∧ Va ρ w 2 g2 28 ([vI 0, vI 0, vI 0, vI 0, (.slice none 0 0)]) ∧ O78 ρ w w0 3 (.slice none 0 0) ([] : List Prod)) s14 ?_ ?_
  · have hF := hT13
    rcases of_ite hF with ⟨hb15, hF⟩ | ⟨hb15, hF⟩
    · replace hf : Fr 73 a [(1, vI a1), (2, vI a2), (3, vI a3), (4, vI a4), (5, .pointer (some ((⟨g1, 0, none⟩ : Addr).add 0))), (10, .pointer (some ((⟨g2, 0, none⟩ : Addr).add 0)))] := hf.sub ⟨rfl, rfl, rfl, rfl, rfl, rfl, trivial⟩
      refine c_drawL (h := 20) mixed (by kernel_rfl) (by kernel_rfl) (fun ρ w => Va ρ w 1 g1 28 ([vI a0.p, vI a0.n, vI a0.m, vI a0.k, va0]) ∧ Va ρ w 2 g2 28 ([vI 0, vI 0, vI 0, vI 0, (.slice none 0 0)]) ∧ O78 ρ w w0 3 (.slice none 0 0) ([] : List Prod)) ?_ [fun ρ w v => vI a1 = v, fun ρ w v => vI a2 = v, fun ρ w v => .bool (decide (a1 = a2)) = v, fun ρ w v => .bool (decide (a1 = a2)) = v, fun ρ w v => undef = v, fun ρ w v => undef = v, fun ρ w v => undef = v, fun ρ w v => undef = v, fun ρ w v => undef = v, fun ρ w v => undef = v, fun ρ w v => undef = v, fun ρ w v => undef = v, fun ρ w v => undef = v, fun ρ w v => undef = v, fun ρ w v => undef = v, fun ρ w v => undef = v, fun ρ w v => undef = v, fun ρ w v => undef = v, fun ρ w v => undef = v, fun ρ w v => undef = v] ?_ hw ⟨o1, o2, o3⟩ hf ?_ ?_
      · intro ρ w ρ' w' hE hG
        obtain ⟨o1, o2, o3⟩ := hG
        exact ⟨o1.ext hE, o2.ext hE, o3.ext hE⟩
      · exact LastsL.cons (fun _ _ _ _ _ _ h => h) <| LastsL.cons (fun _ _ _ _ _ _ h => h) <| LastsL.cons (fun _ _ _ _ _ _ h => h) <| LastsL.cons (fun _ _ _ _ _ _ h => h) <| LastsL.cons (fun _ _ _ _ _ _ h => h) <| LastsL.cons (fun _ _ _ _ _ _ h => h) <| LastsL.cons (fun _ _ _ _ _ _ h => h) <| LastsL.cons (fun _ _ _ _ _ _ h => h) <| LastsL.cons (fun _ _ _ _ _ _ h => h) <| LastsL.cons (fun _ _ _ _ _ _ h => h) <| LastsL.cons (fun _ _ _ _ _ _ h => h) <| LastsL.cons (fun _ _ _ _ _ _ h => h) <| LastsL.cons (fun _ _ _ _ _ _ h => h) <| LastsL.cons (fun _ _ _ _ _ _ h => h) <| LastsL.cons (fun _ _ _ _ _ _ h => h) <| LastsL.cons (fun _ _ _ _ _ _ h => h) <| LastsL.cons (fun _ _ _ _ _ _ h => h) <| LastsL.cons (fun _ _ _ _ _ _ h => h) <| LastsL.cons (fun _ _ _ _ _ _ h => h) <| LastsL.cons (fun _ _ _ _ _ _ h => h) <| LastsL.nil
      · refine StepsB.cons ?_ <| StepsB.cons ?_ <| StepsB.cons ?_ <| StepsB.cons ?_ <| StepsB.cons ?_ <| StepsB.cons ?_ <| StepsB.cons ?_ <| StepsB.cons ?_ <| StepsB.cons ?_ <| StepsB.cons ?_ <| StepsB.cons ?_ <| StepsB.cons ?_ <| StepsB.cons ?_ <| StepsB.cons ?_ <| StepsB.cons ?_ <| StepsB.cons ?_ <| StepsB.cons ?_ <| StepsB.cons ?_ <| StepsB.cons ?_ <| StepsB.cons ?_ <| StepsB.nil
        · intro ρ w a hw hG hf hd K hK
          obtain ⟨o1, o2, o3⟩ := hG
          exact dv_ hK hw (wn rfl) (r_move hf rfl) rfl
        · intro ρ w a hw hG hf hd K hK
          obtain ⟨o1, o2, o3⟩ := hG
          exact dv_ hK hw (wn rfl) (r_move hf rfl) rfl
        · intro ρ w a hw hG hf hd K hK
          obtain ⟨o1, o2, o3⟩ := hG
          obtain ⟨_, hf, rfl⟩ := got (hd 0 (by kernel_rfl)) hf
          obtain ⟨_, hf, rfl⟩ := got (hd 1 (by kernel_rfl)) hf
          exact dv_ hK hw (wn rfl) (r_eql hf rfl rfl) rfl
        · intro ρ w a hw hG hf hd K hK
          obtain ⟨o1, o2, o3⟩ := hG
          obtain ⟨_, hf, rfl⟩ := got (hd 2 (by kernel_rfl)) hf
          exact dv_ hK hw (wn rfl) (r_move hf rfl) rfl
        · intro ρ w a hw hG hf hd K hK
          obtain ⟨o1, o2, o3⟩ := hG
          obtain ⟨_, hf, rfl⟩ := got (hd 3 (by kernel_rfl)) hf
          exact do_ hK (b := true) hw hf rfl rfl rfl hb15 rfl rfl
        · intro ρ w a hw hG hf hd K hK
          obtain ⟨o1, o2, o3⟩ := hG
          obtain ⟨_, hf, rfl⟩ := got (hd 3 (by kernel_rfl)) hf
          obtain ⟨_, hf, rfl⟩ := got (hd 4 (by kernel_rfl)) hf
          exact do_ hK (b := true) hw hf rfl rfl rfl hb15 rfl rfl
        · intro ρ w a hw hG hf hd K hK
          obtain ⟨o1, o2, o3⟩ := hG
          obtain ⟨_, hf, rfl⟩ := got (hd 3 (by kernel_rfl)) hf
          exact do_ hK (b := true) hw hf rfl rfl rfl hb15 rfl rfl
        · intro ρ w a hw hG hf hd K hK
          obtain ⟨o1, o2, o3⟩ := hG
          obtain ⟨_, hf, rfl⟩ := got (hd 3 (by kernel_rfl)) hf
          obtain ⟨_, hf, rfl⟩ := got (hd 5 (by kernel_rfl)) hf
          obtain ⟨_, hf, rfl⟩ := got (hd 6 (by kernel_rfl)) hf
          exact do_ hK (b := true) hw hf rfl rfl rfl hb15 rfl rfl
        · intro ρ w a hw hG hf hd K hK
          obtain ⟨o1, o2, o3⟩ := hG
          obtain ⟨_, hf, rfl⟩ := got (hd 3 (by kernel_rfl)) hf
          obtain ⟨_, hf, rfl⟩ := got (hd 7 (by kernel_rfl)) hf
          exact do_ hK (b := true) hw hf rfl rfl rfl hb15 rfl rfl
        · intro ρ w a hw hG hf hd K hK
          obtain ⟨o1, o2, o3⟩ := hG
          obtain ⟨_, hf, rfl⟩ := got (hd 3 (by kernel_rfl)) hf
          obtain ⟨_, hf, rfl⟩ := got (hd 8 (by kernel_rfl)) hf
          exact do_ hK (b := true) hw hf rfl rfl rfl hb15 rfl rfl
        · intro ρ w a hw hG hf hd K hK
          obtain ⟨o1, o2, o3⟩ := hG
          obtain ⟨_, hf, rfl⟩ := got (hd 3 (by kernel_rfl)) hf
          exact do_ hK (b := true) hw hf rfl rfl rfl hb15 rfl rfl
        · intro ρ w a hw hG hf hd K hK
          obtain ⟨o1, o2, o3⟩ := hG
          obtain ⟨_, hf, rfl⟩ := got (hd 3 (by kernel_rfl)) hf
          obtain ⟨_, hf, rfl⟩ := got (hd 9 (by kernel_rfl)) hf
          obtain ⟨_, hf, rfl⟩ := got (hd 10 (by kernel_rfl)) hf
          exact do_ hK (b := true) hw hf rfl rfl rfl hb15 rfl rfl
        · intro ρ w a hw hG hf hd K hK
          obtain ⟨o1, o2, o3⟩ := hG
          obtain ⟨_, hf, rfl⟩ := got (hd 3 (by kernel_rfl)) hf
          exact do_ hK (b := true) hw hf rfl rfl rfl hb15 rfl rfl
        · intro ρ w a hw hG hf hd K hK
          obtain ⟨o1, o2, o3⟩ := hG
          obtain ⟨_, hf, rfl⟩ := got (hd 3 (by kernel_rfl)) hf
          obtain ⟨_, hf, rfl⟩ := got (hd 12 (by kernel_rfl)) hf
          exact do_ hK (b := true) hw hf rfl rfl rfl hb15 rfl rfl
        · intro ρ w a hw hG hf hd K hK
          obtain ⟨o1, o2, o3⟩ := hG
          obtain ⟨_, hf, rfl⟩ := got (hd 3 (by kernel_rfl)) hf
          exact do_ hK (b := true) hw hf rfl rfl rfl hb15 rfl rfl
        · intro ρ w a hw hG hf hd K hK
          obtain ⟨o1, o2, o3⟩ := hG
          obtain ⟨_, hf, rfl⟩ := got (hd 3 (by kernel_rfl)) hf
          obtain ⟨_, hf, rfl⟩ := got (hd 13 (by kernel_rfl)) hf
          obtain ⟨_, hf, rfl⟩ := got (hd 14 (by kernel_rfl)) hf
          exact do_ hK (b := true) hw hf rfl rfl rfl hb15 rfl rfl
        · intro ρ w a hw hG hf hd K hK
          obtain ⟨o1, o2, o3⟩ := hG
          obtain ⟨_, hf, rfl⟩ := got (hd 3 (by kernel_rfl)) hf
          obtain ⟨_, hf, rfl⟩ := got (hd 15 (by kernel_rfl)) hf
          exact do_ hK (b := true) hw hf rfl rfl rfl hb15 rfl rfl
        · intro ρ w a hw hG hf hd K hK
          obtain ⟨o1, o2, o3⟩ := hG
          obtain ⟨_, hf, rfl⟩ := got (hd 3 (by kernel_rfl)) hf
          obtain ⟨_, hf, rfl⟩ := got (hd 16 (by kernel_rfl)) hf
          exact do_ hK (b := true) hw hf rfl rfl rfl hb15 rfl rfl
        · intro ρ w a hw hG hf hd K hK
          obtain ⟨o1, o2, o3⟩ := hG
          obtain ⟨_, hf, rfl⟩ := got (hd 3 (by kernel_rfl)) hf
          exact do_ hK (b := true) hw hf rfl rfl rfl hb15 rfl rfl
        · intro ρ w a hw hG hf hd K hK
          obtain ⟨o1, o2, o3⟩ := hG
          obtain ⟨_, hf, rfl⟩ := got (hd 3 (by kernel_rfl)) hf
          obtain ⟨_, hf, rfl⟩ := got (hd 17 (by kernel_rfl)) hf
          obtain ⟨_, hf, rfl⟩ := got (hd 18 (by kernel_rfl)) hf
          exact do_ hK (b := true) hw hf rfl rfl rfl hb15 rfl rfl
      intro ρ w a hw hG hf hd
      obtain ⟨o1, o2, o3⟩ := hG
      obtain ⟨_, hf, rfl⟩ := got (hd 3 (by decide)) hf
      obtain ⟨_, hf, rfl⟩ := got (hd 11 (by decide)) hf
      obtain ⟨_, hf, rfl⟩ := got (hd 19 (by decide)) hf
      refine st_no (b := true) hf rfl rfl rfl hb15 rfl (by decide) fun a hf => ?_
      refine s_ hf (r_pick (b := true) hf rfl hb15 rfl) fun a hf => ?_
      refine s_ hf (r_assign hf rfl) fun a hf => ?_
      refine c_nil ⟨rfl, ?_⟩
      obtain rfl := Option.some.inj hF
      exact ⟨_, hw, hf.sub ⟨rfl, rfl, rfl, rfl, rfl, rfl, rfl, trivial⟩, o1, o2, o3⟩
    obtain ⟨hc16, hF⟩ := of_guard hF
    obtain ⟨ad17, c17, he17, hl17⟩ := Ro.el cProd h0 zProd hc16.1 hc16.2
    obtain ⟨x18, hx19, hF⟩ := of_bind hF
    obtain ⟨hc20, hF⟩ := of_guard hF
    obtain ⟨hc21, hF⟩ := of_guard hF
    obtain ⟨ad22, c22, he22, hl22⟩ := Ro.el cProd h0 zProd hc21.1 hc21.2
    obtain ⟨x23, hx24, hF⟩ := of_bind hF
    replace hf : Fr 73 a [(1, vI a1), (2, vI a2), (3, vI a3), (4, vI a4), (5, .pointer (some ((⟨g1, 0, none⟩ : Addr).add 0))), (10, .pointer (some ((⟨g2, 0, none⟩ : Addr).add 0)))] := hf.sub ⟨rfl, rfl, rfl, rfl, rfl, rfl, trivial⟩
    refine c_drawL (h := 20) mixed (by kernel_rfl) (by kernel_rfl) (fun ρ w => Va ρ w 1 g1 28 ([vI a0.p, vI a0.n, vI a0.m, vI a0.k, va0]) ∧ Va ρ w 2 g2 28 ([vI 0, vI 0, vI 0, vI 0, (.slice none 0 0)]) ∧ O78 ρ w w0 3 (.slice none 0 0) ([] : List Prod)) ?_ [fun ρ w v => vI a1 = v, fun ρ w v => vI a2 = v, fun ρ w v => .bool (decide (a1 = a2)) = v, fun ρ w v => .bool (decide (a1 = a2)) = v, fun ρ w v => .pointer (some ((⟨g1, 0, none⟩ : Addr).add (0 + 4))) = v, fun ρ w v => va0 = v, fun ρ w v => vI a1 = v, fun ρ w v => .pointer (some (ad17.add (a1.toNat * 27))) = v, fun ρ w v => .agg (cProd.enc (gl zProd a0.ps a1)).toArray = v, fun ρ w v => .agg (cForms.enc x18).toArray = v, fun ρ w v => vI a3 = v, fun ρ w v => .agg (cForm.enc (vg zForm x18 a3)).toArray = v, fun ρ w v => .pointer (some ((⟨g1, 0, none⟩ : Addr).add (0 + 4))) = v, fun ρ w v => va0 = v, fun ρ w v => vI a2 = v, fun ρ w v => .pointer (some (ad22.add (a2.toNat * 27))) = v, fun ρ w v => .agg (cProd.enc (gl zProd a0.ps a2)).toArray = v, fun ρ w v => .agg (cForms.enc x23).toArray = v, fun ρ w v => vI a3 = v, fun ρ w v => .agg (cForm.enc (vg zForm x23 a3)).toArray = v] ?_ hw ⟨o1, o2, o3⟩ hf ?_ ?_
    · intro ρ w ρ' w' hE hG
      obtain ⟨o1, o2, o3⟩ := hG
      exact ⟨o1.ext hE, o2.ext hE, o3.ext hE⟩
    · exact LastsL.cons (fun _ _ _ _ _ _ h => h) <| LastsL.cons (fun _ _ _ _ _ _ h => h) <| LastsL.cons (fun _ _ _ _ _ _ h => h) <| LastsL.cons (fun _ _ _ _ _ _ h => h) <| LastsL.cons (fun _ _ _ _ _ _ h => h) <| LastsL.cons (fun _ _ _ _ _ _ h => h) <| LastsL.cons (fun _ _ _ _ _ _ h => h) <| LastsL.cons (fun _ _ _ _ _ _ h => h) <| LastsL.cons (fun _ _ _ _ _ _ h => h) <| LastsL.cons (fun _ _ _ _ _ _ h => h) <| LastsL.cons (fun _ _ _ _ _ _ h => h) <| LastsL.cons (fun _ _ _ _ _ _ h => h) <| LastsL.cons (fun _ _ _ _ _ _ h => h) <| LastsL.cons (fun _ _ _ _ _ _ h => h) <| LastsL.cons (fun _ _ _ _ _ _ h => h) <| LastsL.cons (fun _ _ _ _ _ _ h => h) <| LastsL.cons (fun _ _ _ _ _ _ h => h) <| LastsL.cons (fun _ _ _ _ _ _ h => h) <| LastsL.cons (fun _ _ _ _ _ _ h => h) <| LastsL.cons (fun _ _ _ _ _ _ h => h) <| LastsL.nil
    · refine StepsB.cons ?_ <| StepsB.cons ?_ <| StepsB.cons ?_ <| StepsB.cons ?_ <| StepsB.cons ?_ <| StepsB.cons ?_ <| StepsB.cons ?_ <| StepsB.cons ?_ <| StepsB.cons ?_ <| StepsB.cons ?_ <| StepsB.cons ?_ <| StepsB.cons ?_ <| StepsB.cons ?_ <| StepsB.cons ?_ <| StepsB.cons ?_ <| StepsB.cons ?_ <| StepsB.cons ?_ <| StepsB.cons ?_ <| StepsB.cons ?_ <| StepsB.cons ?_ <| StepsB.nil
      · intro ρ w a hw hG hf hd K hK
        obtain ⟨o1, o2, o3⟩ := hG
        exact dv_ hK hw (wn rfl) (r_move hf rfl) rfl
      · intro ρ w a hw hG hf hd K hK
        obtain ⟨o1, o2, o3⟩ := hG
        exact dv_ hK hw (wn rfl) (r_move hf rfl) rfl
      · intro ρ w a hw hG hf hd K hK
        obtain ⟨o1, o2, o3⟩ := hG
        obtain ⟨_, hf, rfl⟩ := got (hd 0 (by kernel_rfl)) hf
        obtain ⟨_, hf, rfl⟩ := got (hd 1 (by kernel_rfl)) hf
        exact dv_ hK hw (wn rfl) (r_eql hf rfl rfl) rfl
      · intro ρ w a hw hG hf hd K hK
        obtain ⟨o1, o2, o3⟩ := hG
        obtain ⟨_, hf, rfl⟩ := got (hd 2 (by kernel_rfl)) hf
        exact dv_ hK hw (wn rfl) (r_move hf rfl) rfl
      · intro ρ w a hw hG hf hd K hK
        obtain ⟨o1, o2, o3⟩ := hG
        obtain ⟨_, hf, rfl⟩ := got (hd 3 (by kernel_rfl)) hf
        exact dv_ hK hw (wg (b := false) hf rfl rfl rfl hb15) (r_fa fa28_4 hf rfl) rfl
      · intro ρ w a hw hG hf hd K hK
        obtain ⟨o1, o2, o3⟩ := hG
        obtain ⟨_, hf, rfl⟩ := got (hd 3 (by kernel_rfl)) hf
        obtain ⟨_, hf, rfl⟩ := got (hd 4 (by kernel_rfl)) hf
        exact dv_ hK hw (wg (b := false) hf rfl rfl rfl hb15) (r_load_cell ty26 hf rfl (o1.cl.at_ 4 _ rfl)) rfl
      · intro ρ w a hw hG hf hd K hK
        obtain ⟨o1, o2, o3⟩ := hG
        obtain ⟨_, hf, rfl⟩ := got (hd 3 (by kernel_rfl)) hf
        exact dv_ hK hw (wg (b := false) hf rfl rfl rfl hb15) (r_move hf rfl) rfl
      · intro ρ w a hw hG hf hd K hK
        obtain ⟨o1, o2, o3⟩ := hG
        obtain ⟨_, hf, rfl⟩ := got (hd 3 (by kernel_rfl)) hf
        obtain ⟨_, hf, rfl⟩ := got (hd 5 (by kernel_rfl)) hf
        obtain ⟨_, hf, rfl⟩ := got (hd 6 (by kernel_rfl)) hf
        exact dv_ hK hw (wg (b := false) hf rfl rfl rfl hb15) (r_idx Try.underlying26 sz78 hf rfl ⟨_, he17⟩ rfl hc16.1 hc16.2) rfl
      · intro ρ w a hw hG hf hd K hK
        obtain ⟨o1, o2, o3⟩ := hG
        obtain ⟨_, hf, rfl⟩ := got (hd 3 (by kernel_rfl)) hf
        obtain ⟨_, hf, rfl⟩ := got (hd 7 (by kernel_rfl)) hf
        exact dv_ hK hw (wg (b := false) hf rfl rfl rfl hb15) (r_load_agg ty78 hf rfl (hl17.below hw.below) (cProd.len _)) rfl
      · intro ρ w a hw hG hf hd K hK
        obtain ⟨o1, o2, o3⟩ := hG
        obtain ⟨_, hf, rfl⟩ := got (hd 3 (by kernel_rfl)) hf
        obtain ⟨_, hf, rfl⟩ := got (hd 8 (by kernel_rfl)) hf
        refine dc_ hK hw (wg (b := false) hf rfl rfl rfl hb15) (r_fn en87 hf rfl) (impl_factors_ok  hx19) fun v w' hΦ => ?_
        obtain ⟨hb, hΦ⟩ := hΦ
        obtain rfl := hΦ
        have hE := Ext.new (ρ := ρ) 9 hb
        exact ⟨_, hw.new 9 hb, hE, rfl⟩
      · intro ρ w a hw hG hf hd K hK
        obtain ⟨o1, o2, o3⟩ := hG
        obtain ⟨_, hf, rfl⟩ := got (hd 3 (by kernel_rfl)) hf
        exact dv_ hK hw (wg (b := false) hf rfl rfl rfl hb15) (r_move hf rfl) rfl
      · intro ρ w a hw hG hf hd K hK
        obtain ⟨o1, o2, o3⟩ := hG
        obtain ⟨_, hf, rfl⟩ := got (hd 3 (by kernel_rfl)) hf
        obtain ⟨_, hf, rfl⟩ := got (hd 9 (by kernel_rfl)) hf
        obtain ⟨_, hf, rfl⟩ := got (hd 10 (by kernel_rfl)) hf
        exact dv_ hK hw (wg (b := false) hf rfl rfl rfl hb15) (r_index_la Try.underlying91 ty39 hf rfl rfl hc20.1 hc20.2 (Lens.vec zForm cForm a3 hc20.1 hc20.2)) rfl
      · intro ρ w a hw hG hf hd K hK
        obtain ⟨o1, o2, o3⟩ := hG
        obtain ⟨_, hf, rfl⟩ := got (hd 3 (by kernel_rfl)) hf
        exact dv_ hK hw (wg (b := false) hf rfl rfl rfl hb15) (r_fa fa28_4 hf rfl) rfl
      · intro ρ w a hw hG hf hd K hK
        obtain ⟨o1, o2, o3⟩ := hG
        obtain ⟨_, hf, rfl⟩ := got (hd 3 (by kernel_rfl)) hf
        obtain ⟨_, hf, rfl⟩ := got (hd 12 (by kernel_rfl)) hf
        exact dv_ hK hw (wg (b := false) hf rfl rfl rfl hb15) (r_load_cell ty26 hf rfl (o1.cl.at_ 4 _ rfl)) rfl
      · intro ρ w a hw hG hf hd K hK
        obtain ⟨o1, o2, o3⟩ := hG
        obtain ⟨_, hf, rfl⟩ := got (hd 3 (by kernel_rfl)) hf
        exact dv_ hK hw (wg (b := false) hf rfl rfl rfl hb15) (r_move hf rfl) rfl
      · intro ρ w a hw hG hf hd K hK
        obtain ⟨o1, o2, o3⟩ := hG
        obtain ⟨_, hf, rfl⟩ := got (hd 3 (by kernel_rfl)) hf
        obtain ⟨_, hf, rfl⟩ := got (hd 13 (by kernel_rfl)) hf
        obtain ⟨_, hf, rfl⟩ := got (hd 14 (by kernel_rfl)) hf
        exact dv_ hK hw (wg (b := false) hf rfl rfl rfl hb15) (r_idx Try.underlying26 sz78 hf rfl ⟨_, he22⟩ rfl hc21.1 hc21.2) rfl
      · intro ρ w a hw hG hf hd K hK
        obtain ⟨o1, o2, o3⟩ := hG
        obtain ⟨_, hf, rfl⟩ := got (hd 3 (by kernel_rfl)) hf
        obtain ⟨_, hf, rfl⟩ := got (hd 15 (by kernel_rfl)) hf
        exact dv_ hK hw (wg (b := false) hf rfl rfl rfl hb15) (r_load_agg ty78 hf rfl (hl22.below hw.below) (cProd.len _)) rfl
      · intro ρ w a hw hG hf hd K hK
        obtain ⟨o1, o2, o3⟩ := hG
        obtain ⟨_, hf, rfl⟩ := got (hd 3 (by kernel_rfl)) hf
        obtain ⟨_, hf, rfl⟩ := got (hd 16 (by kernel_rfl)) hf
        refine dc_ hK hw (wg (b := false) hf rfl rfl rfl hb15) (r_fn en87 hf rfl) (impl_factors_ok  hx24) fun v w' hΦ => ?_
        obtain ⟨hb, hΦ⟩ := hΦ
        obtain rfl := hΦ
        have hE := Ext.new (ρ := ρ) 10 hb
        exact ⟨_, hw.new 10 hb, hE, rfl⟩
      · intro ρ w a hw hG hf hd K hK
        obtain ⟨o1, o2, o3⟩ := hG
        obtain ⟨_, hf, rfl⟩ := got (hd 3 (by kernel_rfl)) hf
        exact dv_ hK hw (wg (b := false) hf rfl rfl rfl hb15) (r_move hf rfl) rfl
      · intro ρ w a hw hG hf hd K hK
        obtain ⟨o1, o2, o3⟩ := hG
        obtain ⟨_, hf, rfl⟩ := got (hd 3 (by kernel_rfl)) hf
        obtain ⟨_, hf, rfl⟩ := got (hd 17 (by kernel_rfl)) hf
        obtain ⟨_, hf, rfl⟩ := got (hd 18 (by kernel_rfl)) hf
        exact dv_ hK hw (wg (b := false) hf rfl rfl rfl hb15) (r_index_la Try.underlying91 ty39 hf rfl rfl hc20.1 hc20.2 (Lens.vec zForm cForm a3 hc20.1 hc20.2)) rfl
    intro ρ w a hw hG hf hd
    obtain ⟨o1, o2, o3⟩ := hG
    obtain ⟨_, hf, rfl⟩ := got (hd 3 (by decide)) hf
    obtain ⟨_, hf, rfl⟩ := got (hd 11 (by decide)) hf
    obtain ⟨_, hf, rfl⟩ := got (hd 19 (by decide)) hf
    refine st_g (b := false) hf rfl rfl rfl hb15 rfl (by decide) (r_ne (d := cForm) eq39 ⟨_, rfl⟩ gt39 hf rfl rfl) fun a hf => ?_
    refine s_ hf (r_pick (b := false) hf rfl hb15 rfl) fun a hf => ?_
    refine s_ hf (r_assign hf rfl) fun a hf => ?_
    refine c_nil ⟨rfl, ?_⟩
    obtain rfl := Option.some.inj hF
    exact ⟨_, hw, hf.sub ⟨rfl, rfl, rfl, rfl, rfl, rfl, rfl, trivial⟩, o1, o2, o3⟩
  rintro a w ⟨ρ, hw, hf, o1, o2, o3⟩
  have hF := hG13
  refine n_then ?_
  rcases of_ite hF with ⟨hb25, hF⟩ | ⟨hb25, hF⟩
  · refine c_ift hf rfl hb25 <| c_seq <| c_region ?_
    have o11 : Ow (kf cProd) 78 ρ w w0.heap.size 11 (.slice none 0 0) [] := Ow.nil _ _ _ _ _ _
    refine s_ hf (r_build_struct (pl := [(0, 1), (1, 1), (2, 1), (3, 1), (4, 1)]) (vs := []) (res := ([vI 0, vI 0, vI 0, vI 0, (.slice none 0 0)]).toArray) Try.underlying28 (by kernel_rfl) ze28 hf rfl rfl rfl) fun a hf => ?_
    refine sk_ hf (r_store_w (cs' := [vI 0, vI 0, vI 0, vI 0, (.slice none 0 0)]) hw o2 (by decide) ty28 rfl rfl (one_sch o11.ro.one) hf rfl rfl rfl) fun a w hf hΦ => ?_
    obtain ⟨hw, hA, o2⟩ := hΦ
    replace o1 := o1.adv hA (by decide)
    replace o3 := o3.adv hA (by decide)
    replace o11 := o11.adv hA (by decide)
    refine s_ hf (r_assign hf rfl) fun a hf => ?_
    refine c_nt <| c_retc ?_
    obtain rfl := Option.some.inj hF
    refine r_block <| r_then <| c_ret hf (res_ct Try.results28 ty28 hf rfl o2.cl rfl rfl) ?_
    exact ⟨_, rfl, hw.below, ⟨_, rfl, o11.out⟩⟩
  refine c_iff hf rfl hb25 <| c_skip <| n_block <| n_then <| c_seq <| c_region ?_
  refine s_ hf (r_load_agg ty28 hf rfl o1.cl rfl) fun a hf => ?_
  refine s_ hf (r_move hf rfl) fun a hf => ?_
  refine s_ hf (r_move hf rfl) fun a hf => ?_
  refine s_ hf (r_move hf rfl) fun a hf => ?_
  refine s_ hf (r_move hf rfl) fun a hf => ?_
  obtain ⟨x26, hx27, hF⟩ := of_bind hF
  refine st_fn 12 hw hf rfl rfl (by decide) (r_fn en90 hf rfl) (impl_flip_ok (a0 := a0) (h0.now hw) hx27) fun a v w ρ hf hw hE hN hΦ => ?_
  obtain ⟨u28, rfl, hr29⟩ := hΦ
  replace o1 := o1.ext hE
  replace o2 := o2.ext hE
  replace o3 := o3.ext hE
  have o12 := hN hr29
  refine sk_ hf (r_store_w (cs' := [vI x26.p, vI x26.n, vI x26.m, vI x26.k, u28]) hw o2 (by decide) ty28 rfl rfl (one_sch o12.ro.one) hf rfl rfl rfl) fun a w hf hΦ => ?_
  obtain ⟨hw, hA, o2⟩ := hΦ
  replace o1 := o1.adv hA (by decide)
  replace o3 := o3.adv hA (by decide)
  replace o12 := o12.adv hA (by decide)
  refine s_ hf (r_assign hf rfl) fun a hf => ?_
  refine c_nt <| c_retc ?_
  obtain rfl := Option.some.inj hF
  refine c_ret hf (res_ct Try.results28 ty28 hf rfl o2.cl rfl rfl) ?_
  exact ⟨_, rfl, hw.below, ⟨_, rfl, o12.out⟩⟩
/-! f46 -/
noncomputable def laws_toInt64S_l2 (a0 : List Int) (s3 : Int) (s4 : List Int) : Option (LR (Int × (List Int)) (List Int)) :=
  if (decide (s3 < (a0.length : Int))) = true then (if 0 ≤ s3 ∧ s3 < (a0.length : Int) then (if 0 ≤ s3 ∧ s3 < (s4.length : Int) then (some (.next (w64 (s3 + 1), (s4.set s3.toNat (gl 0 a0 s3))))) else none) else none) else (some (.stop (s3, s4)))
noncomputable def laws_toInt64S (a0 : List Int) : Option (List Int) :=
  if 0 ≤ (a0.length : Int) ∧ (a0.length : Int) * 8 ≤ 281474976710656 then ((iter (fun s => laws_toInt64S_l2 a0 s.1 s.2) (0, (List.replicate (a0.length : Int).toNat (0 : Int)))).bind fun o => match o with | .stop (s3, s4) => (some (s4)) | .ret r => some r | .next _ => none) else none
theorem laws_toInt64S_ok {w0 : World} {a0 : List Int} {va0 : Value} (h0 : Ro (kf fI64) w0 va0 a0) {r : List Int} (hF : laws_toInt64S a0 = some r) :
    Calls Try.prog 46 [va0].toArray w0 fun e w => ∃ v, e = .returned v ∧ Below w0.heap.size w0 w ∧ ∃ u0, u0 = v ∧ Fresh (kf fI64) 2 w0 w u0 r := by
  refine calls_of (k := 22) Try.func46 rfl rfl (Nat.le_of_ble_eq_true rfl) fun a hf => ?_
  replace hf : Fr 22 a [(0, va0)] := hf
  refine c_start fun w ρ hw => ?_
  unfold laws_toInt64S at hF
  refine c_seq <| c_region ?_
  have o1 : Ow (kf fI64) 2 ρ w w0.heap.size 1 (.slice none 0 0) [] := Ow.nil _ _ _ _ _ _
  refine s_ hf (r_assign hf rfl) fun a hf => ?_
  refine c_nt <| c_seq <| c_region ?_
  refine s_ hf (r_move hf rfl) fun a hf => ?_
  refine s_ hf (r_len Try.underlying61 (h0.now hw) hf rfl) fun a hf => ?_
  obtain ⟨hc1, hF⟩ := of_guard hF
  refine sx_ hf (r_make (d := fI64) (z0 := 0) 2 Try.underlying61 el2 rfl hw hf rfl hc1.1 (mk_le hc1.1 hc1.2)) fun a v2 w hf hΦ => ?_
  obtain ⟨ρ, hw, hE, o2⟩ := hΦ
  replace o1 := o1.ext hE
  refine s_ hf (r_assign hf rfl) fun a hf => ?_
  refine c_nt <| c_seq <| c_seq <| c_region ?_
  refine s_ hf (r_assign hf rfl) fun a hf => ?_
  refine c_nt ?_
  obtain ⟨ol2, ho2, hG2⟩ := of_bind hF
  clear hF
  refine c_block (c_loop (id := 0) (fun s => laws_toInt64S_l2 a0 s.1 s.2) (fun (s : Int × (List Int)) a w => match s with | (s3, s4) => ∃ ρ, Wd w0 ρ w ∧ Fr 22 a [(0, va0), (3, v2), (4, vI s3)] ∧ O2 ρ w w0 2 v2 s4) (fun (s : Int × (List Int)) a w => match s with | (s3, s4) => ∃ ρ, Wd w0 ρ w ∧ Fr 22 a [(3, v2)] ∧ O2 ρ w w0 2 v2 s4) ho2 ⟨_, hw, hf.sub ⟨rfl, rfl, rfl, trivial⟩, o2⟩ ?_ ?_)
  · rintro ⟨s3, s4⟩ lr a w ⟨ρ, hw, hf, o2⟩ hF
    replace hF : laws_toInt64S_l2 a0 s3 s4 = some lr := hF
    unfold laws_toInt64S_l2 at hF
    refine c_seq <| c_seq <| c_region ?_
    refine s_ hf (r_move hf rfl) fun a hf => ?_
    refine s_ hf (r_move hf rfl) fun a hf => ?_
    refine s_ hf (r_len Try.underlying61 (h0.now hw) hf rfl) fun a hf => ?_
    refine s_ hf (r_lss hf rfl rfl) fun a hf => ?_
    refine c_nt ?_
    rcases of_ite hF with ⟨hb5, hF⟩ | ⟨hb5, hF⟩
    rotate_left
    · refine c_iff hf rfl hb5 <| c_exit <| x_then ?_
      obtain rfl := Option.some.inj hF
      exact Rnd.stops ⟨_, hw, hf.sub ⟨rfl, trivial⟩, o2⟩
    refine c_ift hf rfl hb5 <| c_skip <| n_then <| c_seq <| c_block <| c_region ?_
    refine s_ hf (r_move hf rfl) fun a hf => ?_
    refine s_ hf (r_move hf rfl) fun a hf => ?_
    refine s_ hf (r_move hf rfl) fun a hf => ?_
    refine s_ hf (r_move hf rfl) fun a hf => ?_
    obtain ⟨hc6, hF⟩ := of_guard hF
    obtain ⟨ad7, c7, he7, hl7⟩ := Ro.el fI64 h0 0 hc6.1 hc6.2
    refine s_ hf (r_idx Try.underlying61 sz2 hf rfl ⟨_, he7⟩ rfl hc6.1 hc6.2) fun a hf => ?_
    refine s_ hf (r_load_cell ty2 hf rfl (hl7.below hw.below)) fun a hf => ?_
    obtain ⟨hc8, hF⟩ := of_guard hF
    obtain ⟨ad9, hl9⟩ := Ow.ce (d := fI64) o2 0 hc8.1 hc8.2
    refine s_ hf (r_idx Try.underlying61 sz2 hf rfl hl9.at_ rfl hc8.1 hc8.2) fun a hf => ?_
    refine sk_ hf (r_store_ec (b := gl 0 a0 s3) 0 hw (by decide) o2 hc8.1 hc8.2 (Lens.id _) hl9.at_ ty2 (by first | rfl | exact Nat.add_assoc _ _ _ | (simp only [Nat.add_assoc]; rfl)) hf rfl rfl rfl) fun a w hf hΦ => ?_
    obtain ⟨hw, hA, o2⟩ := hΦ
    refine c_nil <| n_block <| n_then <| c_region ?_
    refine s_ hf (r_move hf rfl) fun a hf => ?_
    refine s_ hf (r_add hf rfl rfl) fun a hf => ?_
    refine s_ hf (r_assign hf rfl) fun a hf => ?_
    refine c_nil ?_
    obtain rfl := Option.some.inj hF
    exact Rnd.goes ⟨_, hw, hf.sub ⟨rfl, rfl, rfl, trivial⟩, o2⟩
  rintro ⟨s3, s4⟩ a w hs ⟨ρ, hw, hf, o2⟩
  subst hs
  have hF := hG2
  dsimp only at hF
  refine x_block <| n_then <| c_seq <| c_region ?_
  refine s_ hf (r_move hf rfl) fun a hf => ?_
  refine s_ hf (r_assign hf rfl) fun a hf => ?_
  refine c_nt <| c_retc ?_
  obtain rfl := Option.some.inj hF
  refine c_ret hf (res_tmp Try.results46 hf rfl) ?_
  exact ⟨_, rfl, hw.below, ⟨_, rfl, o2.out⟩⟩
/-! f48 -/
noncomputable def laws_eqInt64S_l2 (a0 : List Int) (a1 : List Int) (s3 : Int) : Option (LR Int Bool) :=
  if (decide (s3 < (a0.length : Int))) = true then (if 0 ≤ s3 ∧ s3 < (a0.length : Int) then (if 0 ≤ s3 ∧ s3 < (a1.length : Int) then (if (decide ((gl 0 a0 s3) ≠ (gl 0 a1 s3))) = true then (some (.ret false)) else (some (.next (w64 (s3 + 1))))) else none) else none) else (some (.stop s3))
noncomputable def laws_eqInt64S (a0 : List Int) (a1 : List Int) : Option Bool :=
  if (decide ((a0.length : Int) ≠ (a1.length : Int))) = true then (some (false)) else ((iter (fun s => laws_eqInt64S_l2 a0 a1 s) 0).bind fun o => match o with | .stop s3 => (some (true)) | .ret r => some r | .next _ => none)
theorem laws_eqInt64S_ok {w0 : World} {a0 : List Int} {a1 : List Int} {va0 : Value} {va1 : Value} (h0 : Ro (kf fI64) w0 va0 a0) (h1 : Ro (kf fI64) w0 va1 a1) {r : Bool} (hF : laws_eqInt64S a0 a1 = some r) :
    Calls Try.prog 48 [va0, va1].toArray w0 fun e w => ∃ v, e = .returned v ∧ Below w0.heap.size w0 w ∧ .bool r = v := by
  refine calls_of (k := 26) Try.func48 rfl rfl (Nat.le_of_ble_eq_true rfl) fun a hf => ?_
  replace hf : Fr 26 a [(0, va0), (1, va1)] := hf
  refine c_start fun w ρ hw => ?_
  unfold laws_eqInt64S at hF
  refine c_seq <| c_region ?_
  refine s_ hf (r_assign hf rfl) fun a hf => ?_
  refine c_nt <| c_seq <| c_seq <| c_region ?_
  refine s_ hf (r_move hf rfl) fun a hf => ?_
  refine s_ hf (r_len Try.underlying61 (h0.now hw) hf rfl) fun a hf => ?_
  refine s_ hf (r_move hf rfl) fun a hf => ?_
  refine s_ hf (r_len Try.underlying61 (h1.now hw) hf rfl) fun a hf => ?_
  refine s_ hf (r_neq hf rfl rfl) fun a hf => ?_
  refine c_nt ?_
  rcases of_ite hF with ⟨hb1, hF⟩ | ⟨hb1, hF⟩
  · refine c_ift hf rfl hb1 <| c_seq <| c_region ?_
    refine s_ hf (r_assign hf rfl) fun a hf => ?_
    refine c_nt <| c_retc ?_
    obtain rfl := Option.some.inj hF
    refine r_then <| c_ret hf (res_tmp Try.results48 hf rfl) ?_
    exact ⟨_, rfl, hw.below, rfl⟩
  refine c_iff hf rfl hb1 <| c_skip <| n_then <| c_seq <| c_seq <| c_region ?_
  refine s_ hf (r_assign hf rfl) fun a hf => ?_
  refine c_nt ?_
  obtain ⟨ol2, ho2, hG2⟩ := of_bind hF
  clear hF
  refine c_block (c_loop (id := 0) (fun s => laws_eqInt64S_l2 a0 a1 s) (fun (s3 : Int) a w => ∃ ρ, Wd w0 ρ w ∧ Fr 26 a [(0, va0), (1, va1), (5, vI s3)]) (fun (s3 : Int) a w => ∃ ρ, Wd w0 ρ w ∧ Fr 26 a []) ho2 ⟨_, hw, hf.sub ⟨rfl, rfl, rfl, trivial⟩⟩ ?_ ?_)
  · rintro s3 lr a w ⟨ρ, hw, hf⟩ hF
    replace hF : laws_eqInt64S_l2 a0 a1 s3 = some lr := hF
    unfold laws_eqInt64S_l2 at hF
    refine c_seq <| c_seq <| c_region ?_
    refine s_ hf (r_move hf rfl) fun a hf => ?_
    refine s_ hf (r_move hf rfl) fun a hf => ?_
    refine s_ hf (r_len Try.underlying61 (h0.now hw) hf rfl) fun a hf => ?_
    refine s_ hf (r_lss hf rfl rfl) fun a hf => ?_
    refine c_nt ?_
    rcases of_ite hF with ⟨hb4, hF⟩ | ⟨hb4, hF⟩
    rotate_left
    · refine c_iff hf rfl hb4 <| c_exit <| x_then ?_
      obtain rfl := Option.some.inj hF
      exact Rnd.stops ⟨_, hw, hf.sub trivial⟩
    refine c_ift hf rfl hb4 <| c_skip <| n_then <| c_seq <| c_block <| c_seq ?_
    obtain ⟨hc5, hF⟩ := of_guard hF
    obtain ⟨ad6, c6, he6, hl6⟩ := Ro.el fI64 h0 0 hc5.1 hc5.2
    obtain ⟨hc7, hF⟩ := of_guard hF
    obtain ⟨ad8, c8, he8, hl8⟩ := Ro.el fI64 h1 0 hc7.1 hc7.2
    replace hf : Fr 26 a [(0, va0), (1, va1), (5, vI s3)] := hf.sub ⟨rfl, rfl, rfl, trivial⟩
    refine c_drawL (h := 8) mixed (by kernel_rfl) (by kernel_rfl) (fun ρ w => True) ?_ [fun ρ w v => va0 = v, fun ρ w v => vI s3 = v, fun ρ w v => .pointer (some (ad6.add (s3.toNat * 1))) = v, fun ρ w v => vI (gl 0 a0 s3) = v, fun ρ w v => va1 = v, fun ρ w v => vI s3 = v, fun ρ w v => .pointer (some (ad8.add (s3.toNat * 1))) = v, fun ρ w v => vI (gl 0 a1 s3) = v] ?_ hw trivial hf ?_ ?_
    · intro ρ w ρ' w' hE hG
      skip
      exact trivial
    · exact LastsL.cons (fun _ _ _ _ _ _ h => h) <| LastsL.cons (fun _ _ _ _ _ _ h => h) <| LastsL.cons (fun _ _ _ _ _ _ h => h) <| LastsL.cons (fun _ _ _ _ _ _ h => h) <| LastsL.cons (fun _ _ _ _ _ _ h => h) <| LastsL.cons (fun _ _ _ _ _ _ h => h) <| LastsL.cons (fun _ _ _ _ _ _ h => h) <| LastsL.cons (fun _ _ _ _ _ _ h => h) <| LastsL.nil
    · refine StepsB.cons ?_ <| StepsB.cons ?_ <| StepsB.cons ?_ <| StepsB.cons ?_ <| StepsB.cons ?_ <| StepsB.cons ?_ <| StepsB.cons ?_ <| StepsB.cons ?_ <| StepsB.nil
      · intro ρ w a hw hG hf hd K hK
        exact dv_ hK hw (wn rfl) (r_move hf rfl) rfl
      · intro ρ w a hw hG hf hd K hK
        exact dv_ hK hw (wn rfl) (r_move hf rfl) rfl
      · intro ρ w a hw hG hf hd K hK
        obtain ⟨_, hf, rfl⟩ := got (hd 0 (by kernel_rfl)) hf
        obtain ⟨_, hf, rfl⟩ := got (hd 1 (by kernel_rfl)) hf
        exact dv_ hK hw (wn rfl) (r_idx Try.underlying61 sz2 hf rfl ⟨_, he6⟩ rfl hc5.1 hc5.2) rfl
      · intro ρ w a hw hG hf hd K hK
        obtain ⟨_, hf, rfl⟩ := got (hd 2 (by kernel_rfl)) hf
        exact dv_ hK hw (wn rfl) (r_load_cell ty2 hf rfl (hl6.below hw.below)) rfl
      · intro ρ w a hw hG hf hd K hK
        exact dv_ hK hw (wn rfl) (r_move hf rfl) rfl
      · intro ρ w a hw hG hf hd K hK
        exact dv_ hK hw (wn rfl) (r_move hf rfl) rfl
      · intro ρ w a hw hG hf hd K hK
        obtain ⟨_, hf, rfl⟩ := got (hd 4 (by kernel_rfl)) hf
        obtain ⟨_, hf, rfl⟩ := got (hd 5 (by kernel_rfl)) hf
        exact dv_ hK hw (wn rfl) (r_idx Try.underlying61 sz2 hf rfl ⟨_, he8⟩ rfl hc7.1 hc7.2) rfl
      · intro ρ w a hw hG hf hd K hK
        obtain ⟨_, hf, rfl⟩ := got (hd 6 (by kernel_rfl)) hf
        exact dv_ hK hw (wn rfl) (r_load_cell ty2 hf rfl (hl8.below hw.below)) rfl
    intro ρ w a hw hG hf hd
    obtain ⟨_, hf, rfl⟩ := got (hd 3 (by decide)) hf
    obtain ⟨_, hf, rfl⟩ := got (hd 7 (by decide)) hf
    refine s_ hf (r_neq hf rfl rfl) fun a hf => ?_
    refine c_nt ?_
    rcases of_ite hF with ⟨hb9, hF⟩ | ⟨hb9, hF⟩
    rotate_left
    · refine c_iff hf rfl hb9 <| c_skip <| n_block <| n_then <| c_region ?_
      refine s_ hf (r_move hf rfl) fun a hf => ?_
      refine s_ hf (r_add hf rfl rfl) fun a hf => ?_
      refine s_ hf (r_assign hf rfl) fun a hf => ?_
      refine c_nil ?_
      obtain rfl := Option.some.inj hF
      exact Rnd.goes ⟨_, hw, hf.sub ⟨rfl, rfl, rfl, trivial⟩⟩
    refine c_ift hf rfl hb9 <| c_seq <| c_region ?_
    refine s_ hf (r_assign hf rfl) fun a hf => ?_
    refine c_nt <| c_retc ?_
    obtain rfl := Option.some.inj hF
    refine r_block <| r_then ?_
    refine Rnd.rets fun ho => ?_
    subst ho
    have hF := hG2
    dsimp only at hF
    obtain rfl := Option.some.inj hF
    refine r_block <| r_then <| c_ret hf (res_tmp Try.results48 hf rfl) ?_
    exact ⟨_, rfl, hw.below, rfl⟩
  rintro s3 a w hs ⟨ρ, hw, hf⟩
  subst hs
  have hF := hG2
  dsimp only at hF
  refine x_block <| n_then <| c_seq <| c_region ?_
  refine s_ hf (r_assign hf rfl) fun a hf => ?_
  refine c_nt <| c_retc ?_
  obtain rfl := Option.some.inj hF
  refine c_ret hf (res_tmp Try.results48 hf rfl) ?_
  exact ⟨_, rfl, hw.below, rfl⟩
/-! f49 -/
noncomputable def laws_markInt64S_l1  (s2 : Int) (s3 : Int) (s4 : List Int) : Option (LR (Int × Int × (List Int)) (Int × (List Int))) :=
  if (decide (s3 < (s4.length : Int))) = true then (if 0 ≤ s3 ∧ s3 < (s4.length : Int) then (some (.next (w64 (s2 + 1), w64 (s3 + 1), (s4.set s3.toNat s2)))) else none) else (some (.stop (s2, s3, s4)))
noncomputable def laws_markInt64S (a0 : List Int) (a1 : Int) : Option (Int × (List Int)) :=
  (iter (fun s => laws_markInt64S_l1  s.1 s.2.1 s.2.2) (a1, 0, a0)).bind fun o => match o with | .stop (s2, s3, s4) => (some ((s2, s4))) | .ret r => some r | .next _ => none
theorem laws_markInt64S_ok {w0 ws : World} {ρ0 : Nat → Nat} {i : Nat} (hi : i ≠ 0) (hW : Wd w0 ρ0 ws) {a0 : List Int} {a1 : Int} {va0 : Value} (h0 : Ow (kf fI64) 2 ρ0 ws w0.heap.size i va0 a0) {r : Int × (List Int)} (hF : laws_markInt64S a0 a1 = some r) :
    Calls Try.prog 49 [va0, vI a1].toArray ws fun e w => ∃ v, e = .returned v ∧ ∃ ρ', Wd w0 ρ' w ∧ Adv i ρ0 ws ρ' w ∧ .int .i64 r.1 = v ∧ Ow (kf fI64) 2 ρ' w w0.heap.size i va0 r.2 := by
  refine calls_of (k := 19) Try.func49 rfl rfl (Nat.le_of_ble_eq_true rfl) fun a hf => ?_
  replace hf : Fr 19 a [(0, va0), (1, vI a1)] := hf
  refine c_startm hi hW h0 fun w ρ hw oA o1 => ?_
  unfold laws_markInt64S at hF
  refine c_seq <| c_region ?_
  refine s_ hf (r_assign hf rfl) fun a hf => ?_
  refine c_nt <| c_seq <| c_seq <| c_region ?_
  refine s_ hf (r_assign hf rfl) fun a hf => ?_
  refine c_nt ?_
  obtain ⟨ol1, ho1, hG1⟩ := of_bind hF
  clear hF
  refine c_block (c_loop (id := 0) (fun s => laws_markInt64S_l1  s.1 s.2.1 s.2.2) (fun (s : Int × Int × (List Int)) a w => match s with | (s2, s3, s4) => ∃ ρ, Wd w0 ρ w ∧ Fr 19 a [(0, va0), (1, vI s2), (5, vI s3)] ∧ Old (oneOf ρ0 i) ws ρ w ∧ O2 ρ w w0 1 va0 s4) (fun (s : Int × Int × (List Int)) a w => match s with | (s2, s3, s4) => ∃ ρ, Wd w0 ρ w ∧ Fr 19 a [(1, vI s2)] ∧ Old (oneOf ρ0 i) ws ρ w ∧ O2 ρ w w0 1 va0 s4) ho1 ⟨_, hw, hf.sub ⟨rfl, rfl, rfl, trivial⟩, oA, o1⟩ ?_ ?_)
  · rintro ⟨s2, s3, s4⟩ lr a w ⟨ρ, hw, hf, oA, o1⟩ hF
    replace hF : laws_markInt64S_l1  s2 s3 s4 = some lr := hF
    unfold laws_markInt64S_l1 at hF
    refine c_seq <| c_seq <| c_region ?_
    refine s_ hf (r_move hf rfl) fun a hf => ?_
    refine s_ hf (r_move hf rfl) fun a hf => ?_
    refine s_ hf (r_len Try.underlying61 o1.ro hf rfl) fun a hf => ?_
    refine s_ hf (r_lss hf rfl rfl) fun a hf => ?_
    refine c_nt ?_
    rcases of_ite hF with ⟨hb5, hF⟩ | ⟨hb5, hF⟩
    rotate_left
    · refine c_iff hf rfl hb5 <| c_exit <| x_then ?_
      obtain rfl := Option.some.inj hF
      exact Rnd.stops ⟨_, hw, hf.sub ⟨rfl, trivial⟩, oA, o1⟩
    refine c_ift hf rfl hb5 <| c_skip <| n_then <| c_seq <| c_block <| c_seq <| c_region ?_
    refine s_ hf (r_move hf rfl) fun a hf => ?_
    refine s_ hf (r_move hf rfl) fun a hf => ?_
    refine s_ hf (r_move hf rfl) fun a hf => ?_
    obtain ⟨hc6, hF⟩ := of_guard hF
    obtain ⟨ad7, hl7⟩ := Ow.ce (d := fI64) o1 0 hc6.1 hc6.2
    refine s_ hf (r_idx Try.underlying61 sz2 hf rfl hl7.at_ rfl hc6.1 hc6.2) fun a hf => ?_
    refine sk_ hf (r_store_ec (b := s2) 0 hw (by decide) o1 hc6.1 hc6.2 (Lens.id _) hl7.at_ ty2 (by first | rfl | exact Nat.add_assoc _ _ _ | (simp only [Nat.add_assoc]; rfl)) hf rfl rfl rfl) fun a w hf hΦ => ?_
    obtain ⟨hw, hA, o1⟩ := hΦ
    replace oA := oA.adv hA (by decide)
    refine c_nt <| c_region ?_
    refine s_ hf (r_move hf rfl) fun a hf => ?_
    refine s_ hf (r_add hf rfl rfl) fun a hf => ?_
    refine s_ hf (r_assign hf rfl) fun a hf => ?_
    refine c_nil <| n_block <| n_then <| c_region ?_
    refine s_ hf (r_move hf rfl) fun a hf => ?_
    refine s_ hf (r_add hf rfl rfl) fun a hf => ?_
    refine s_ hf (r_assign hf rfl) fun a hf => ?_
    refine c_nil ?_
    obtain rfl := Option.some.inj hF
    exact Rnd.goes ⟨_, hw, hf.sub ⟨rfl, rfl, rfl, trivial⟩, oA, o1⟩
  rintro ⟨s2, s3, s4⟩ a w hs ⟨ρ, hw, hf, oA, o1⟩
  subst hs
  have hF := hG1
  dsimp only at hF
  refine x_block <| n_then <| c_seq <| c_region ?_
  refine s_ hf (r_move hf rfl) fun a hf => ?_
  refine s_ hf (r_assign hf rfl) fun a hf => ?_
  refine c_nt <| c_retc ?_
  obtain rfl := Option.some.inj hF
  refine c_ret hf (res_tmp Try.results49 hf rfl) ?_
  exact ⟨_, rfl, _, m_wd hW hw oA, m_adv oA, rfl, m_ow oA o1⟩
/-! f93 -/
noncomputable def laws_heldInt64S_l1 (a0 : List Int) (s2 : Int) (s3 : Int) : Option (LR (Int × Int) Int) :=
  if (decide (s3 < (a0.length : Int))) = true then (if 0 ≤ s3 ∧ s3 < (a0.length : Int) then (if (decide ((gl 0 a0 s3) ≠ s2)) = true then (some (.ret (-1))) else (some (.next (w64 (s2 + 1), w64 (s3 + 1))))) else none) else (some (.stop (s2, s3)))
noncomputable def laws_heldInt64S (a0 : List Int) (a1 : Int) : Option Int :=
  (iter (fun s => laws_heldInt64S_l1 a0 s.1 s.2) (a1, 0)).bind fun o => match o with | .stop (s2, s3) => (some (s2)) | .ret r => some r | .next _ => none
theorem laws_heldInt64S_ok {w0 : World} {a0 : List Int} {a1 : Int} {va0 : Value} (h0 : Ro (kf fI64) w0 va0 a0) {r : Int} (hF : laws_heldInt64S a0 a1 = some r) :
    Calls Try.prog 93 [va0, vI a1].toArray w0 fun e w => ∃ v, e = .returned v ∧ Below w0.heap.size w0 w ∧ .int .i64 r = v := by
  refine calls_of (k := 21) Try.func93 rfl rfl (Nat.le_of_ble_eq_true rfl) fun a hf => ?_
  replace hf : Fr 21 a [(0, va0), (1, vI a1)] := hf
  refine c_start fun w ρ hw => ?_
  unfold laws_heldInt64S at hF
  refine c_seq <| c_region ?_
  refine s_ hf (r_assign hf rfl) fun a hf => ?_
  refine c_nt <| c_seq <| c_seq <| c_region ?_
  refine s_ hf (r_assign hf rfl) fun a hf => ?_
  refine c_nt ?_
  obtain ⟨ol1, ho1, hG1⟩ := of_bind hF
  clear hF
  refine c_block (c_loop (id := 0) (fun s => laws_heldInt64S_l1 a0 s.1 s.2) (fun (s : Int × Int) a w => match s with | (s2, s3) => ∃ ρ, Wd w0 ρ w ∧ Fr 21 a [(0, va0), (1, vI s2), (5, vI s3)]) (fun (s : Int × Int) a w => match s with | (s2, s3) => ∃ ρ, Wd w0 ρ w ∧ Fr 21 a [(1, vI s2)]) ho1 ⟨_, hw, hf.sub ⟨rfl, rfl, rfl, trivial⟩⟩ ?_ ?_)
  · rintro ⟨s2, s3⟩ lr a w ⟨ρ, hw, hf⟩ hF
    replace hF : laws_heldInt64S_l1 a0 s2 s3 = some lr := hF
    unfold laws_heldInt64S_l1 at hF
    refine c_seq <| c_seq <| c_region ?_
    refine s_ hf (r_move hf rfl) fun a hf => ?_
    refine s_ hf (r_move hf rfl) fun a hf => ?_
    refine s_ hf (r_len Try.underlying61 (h0.now hw) hf rfl) fun a hf => ?_
    refine s_ hf (r_lss hf rfl rfl) fun a hf => ?_
    refine c_nt ?_
    rcases of_ite hF with ⟨hb4, hF⟩ | ⟨hb4, hF⟩
    rotate_left
    · refine c_iff hf rfl hb4 <| c_exit <| x_then ?_
      obtain rfl := Option.some.inj hF
      exact Rnd.stops ⟨_, hw, hf.sub ⟨rfl, trivial⟩⟩
    refine c_ift hf rfl hb4 <| c_skip <| n_then <| c_seq <| c_block <| c_seq <| c_seq <| c_region ?_
    refine s_ hf (r_move hf rfl) fun a hf => ?_
    refine s_ hf (r_move hf rfl) fun a hf => ?_
    obtain ⟨hc5, hF⟩ := of_guard hF
    obtain ⟨ad6, c6, he6, hl6⟩ := Ro.el fI64 h0 0 hc5.1 hc5.2
    refine s_ hf (r_idx Try.underlying61 sz2 hf rfl ⟨_, he6⟩ rfl hc5.1 hc5.2) fun a hf => ?_
    refine s_ hf (r_load_cell ty2 hf rfl (hl6.below hw.below)) fun a hf => ?_
    refine s_ hf (r_move hf rfl) fun a hf => ?_
    refine s_ hf (r_neq hf rfl rfl) fun a hf => ?_
    refine c_nt ?_
    rcases of_ite hF with ⟨hb7, hF⟩ | ⟨hb7, hF⟩
    · refine c_ift hf rfl hb7 <| c_seq <| c_region ?_
      refine s_ hf (r_assign hf rfl) fun a hf => ?_
      refine c_nt <| c_retc ?_
      obtain rfl := Option.some.inj hF
      refine r_then <| r_block <| r_then ?_
      refine Rnd.rets fun ho => ?_
      subst ho
      have hF := hG1
      dsimp only at hF
      obtain rfl := Option.some.inj hF
      refine r_block <| r_then <| c_ret hf (res_tmp Try.results93 hf rfl) ?_
      exact ⟨_, rfl, hw.below, rfl⟩
    refine c_iff hf rfl hb7 <| c_skip <| n_then <| c_region ?_
    refine s_ hf (r_move hf rfl) fun a hf => ?_
    refine s_ hf (r_add hf rfl rfl) fun a hf => ?_
    refine s_ hf (r_assign hf rfl) fun a hf => ?_
    refine c_nil <| n_block <| n_then <| c_region ?_
    refine s_ hf (r_move hf rfl) fun a hf => ?_
    refine s_ hf (r_add hf rfl rfl) fun a hf => ?_
    refine s_ hf (r_assign hf rfl) fun a hf => ?_
    refine c_nil ?_
    obtain rfl := Option.some.inj hF
    exact Rnd.goes ⟨_, hw, hf.sub ⟨rfl, rfl, rfl, trivial⟩⟩
  rintro ⟨s2, s3⟩ a w hs ⟨ρ, hw, hf⟩
  subst hs
  have hF := hG1
  dsimp only at hF
  refine x_block <| n_then <| c_seq <| c_region ?_
  refine s_ hf (r_move hf rfl) fun a hf => ?_
  refine s_ hf (r_assign hf rfl) fun a hf => ?_
  refine c_nt <| c_retc ?_
  obtain rfl := Option.some.inj hF
  refine c_ret hf (res_tmp Try.results93 hf rfl) ?_
  exact ⟨_, rfl, hw.below, rfl⟩
/-! f82 -/
noncomputable def spec_l03Length (a0 : Sch) (a1 : Int) : Option Int :=
  (spec_l01Lengths a0).bind fun x1 => if (decide (a1 = 0)) = true then (some (x1.1)) else (if (decide (a1 = 1)) = true then (some (x1.2.1)) else (some (x1.2.2)))
theorem spec_l03Length_ok {w0 : World} {a0 : Sch} {a1 : Int} {va0 : Value} (h0 : Ro (kf cProd) w0 va0 a0.ps) {r : Int} (hF : spec_l03Length a0 a1 = some r) :
    Calls Try.prog 82 [.agg ([vI a0.p, vI a0.n, vI a0.m, vI a0.k, va0]).toArray, vI a1].toArray w0 fun e w => ∃ v, e = .returned v ∧ Below w0.heap.size w0 w ∧ .int .i64 r = v := by
  refine calls_of (k := 22) Try.func82 rfl rfl (Nat.le_of_ble_eq_true rfl) fun a hf => ?_
  replace hf : Fr 22 a [(0, .agg ([vI a0.p, vI a0.n, vI a0.m, vI a0.k, va0]).toArray), (1, vI a1)] := hf
  refine c_start fun w ρ hw => ?_
  unfold spec_l03Length at hF
  refine c_seq <| c_region ?_
  refine sx_ hf (r_box (cs := [vI a0.p, vI a0.n, vI a0.m, vI a0.k, va0]) 1 hw hf rfl rfl) fun a v w hf hΦ => ?_
  obtain ⟨g1, ρ, rfl, hw, hE, o1⟩ := hΦ
  refine s_ hf (r_assign hf rfl) fun a hf => ?_
  refine c_nt <| c_seq <| c_region ?_
  refine s_ hf (r_load_agg ty28 hf rfl o1.cl rfl) fun a hf => ?_
  obtain ⟨x1, hx2, hF⟩ := of_bind hF
  refine st_fn 2 hw hf rfl rfl (by decide) (r_fn en134 hf rfl) (spec_l01Lengths_ok (a0 := a0) (h0.now hw) hx2) fun a v w ρ hf hw hE hN hΦ => ?_
  obtain rfl := hΦ
  replace o1 := o1.ext hE
  refine s_ hf (r_move hf rfl) fun a hf => ?_
  refine s_ hf (r_extract hf rfl rfl) fun a hf => ?_
  refine s_ hf (r_extract hf rfl rfl) fun a hf => ?_
  refine s_ hf (r_extract hf rfl rfl) fun a hf => ?_
  refine s_ hf (r_assign hf rfl) fun a hf => ?_
  refine s_ hf (r_assign hf rfl) fun a hf => ?_
  refine s_ hf (r_assign hf rfl) fun a hf => ?_
  refine c_nt <| c_seq <| c_seq <| c_region ?_
  refine s_ hf (r_move hf rfl) fun a hf => ?_
  refine c_nt <| c_block <| c_seq <| c_region ?_
  refine s_ hf (r_eql hf rfl rfl) fun a hf => ?_
  refine s_ hf (r_assign hf rfl) fun a hf => ?_
  refine c_nt ?_
  rcases of_ite hF with ⟨hb3, hF⟩ | ⟨hb3, hF⟩
  · refine c_ift hf rfl hb3 <| c_seq <| c_region ?_
    refine s_ hf (r_move hf rfl) fun a hf => ?_
    refine s_ hf (r_assign hf rfl) fun a hf => ?_
    refine c_nt <| c_retc ?_
    obtain rfl := Option.some.inj hF
    refine r_block <| r_then <| c_ret hf (res_tmp Try.results82 hf rfl) ?_
    exact ⟨_, rfl, hw.below, rfl⟩
  refine c_iff hf rfl hb3 <| c_seq <| c_region ?_
  refine s_ hf (r_eql hf rfl rfl) fun a hf => ?_
  refine s_ hf (r_assign hf rfl) fun a hf => ?_
  refine c_nt ?_
  rcases of_ite hF with ⟨hb4, hF⟩ | ⟨hb4, hF⟩
  · refine c_ift hf rfl hb4 <| c_seq <| c_region ?_
    refine s_ hf (r_move hf rfl) fun a hf => ?_
    refine s_ hf (r_assign hf rfl) fun a hf => ?_
    refine c_nt <| c_retc ?_
    obtain rfl := Option.some.inj hF
    refine r_block <| r_then <| c_ret hf (res_tmp Try.results82 hf rfl) ?_
    exact ⟨_, rfl, hw.below, rfl⟩
  refine c_iff hf rfl hb4 <| c_skip <| n_block <| n_then <| c_seq <| c_region ?_
  refine s_ hf (r_move hf rfl) fun a hf => ?_
  refine s_ hf (r_assign hf rfl) fun a hf => ?_
  refine c_nt <| c_retc ?_
  obtain rfl := Option.some.inj hF
  refine c_ret hf (res_tmp Try.results82 hf rfl) ?_
  exact ⟨_, rfl, hw.below, rfl⟩
end Go.Proofs.YtB
