/- Functions of the program as plain functions, and that they compute these. Printed by gen.py. -/
import Derived.Test.YtaaghemmkbgldaaRoG2
set_option linter.unusedVariables false
set_option linter.unusedSimpArgs false
set_option maxRecDepth 4000
set_option maxHeartbeats 1000000
namespace Go.Proofs.YtB
open Go Go.RowKit Go.Proofs Go.Proofs.YtaaghemmkbgldaaW.PrintWords
/-! f24 -/
noncomputable def spec_SplitProduct (a0 : Sch) (a1 : Int) (a2 : Int) (a3 : Form) : Option (Sch × Int) :=
  (spec_l01Is a0).bind fun x1 => if (!x1) = true then (some (((⟨0, 0, 0, 0, ([] : List Prod)⟩ : Sch), 1))) else (((spec_l03Numbers a0 ([a1])).bind fun x6 => if (!x6) = true then (some true) else ((spec_l01In a2 0 2).bind fun x9 => some (!x9))).bind fun (s5 : Bool) => if s5 = true then (some (((⟨0, 0, 0, 0, ([] : List Prod)⟩ : Sch), 2))) else ((spec_l03Length a0 a2).bind fun x12 => (spec_l01Form a0.p a3 x12).bind fun x14 => if (!x14) = true then (some (((⟨0, 0, 0, 0, ([] : List Prod)⟩ : Sch), 2))) else (((spec_l01Zero a3).bind fun x19 => if x19 = true then (some true) else (if 0 ≤ a1 ∧ a1 < (a0.ps.length : Int) then ((spec_l03Factor (gl zProd a0.ps a1) a2).bind fun x24 => some (decide (a3 = x24))) else none)).bind fun (s18 : Bool) => if s18 = true then (some (((⟨0, 0, 0, 0, ([] : List Prod)⟩ : Sch), 5))) else (if (decide ((a0.ps.length : Int) = 30)) = true then (some (((⟨0, 0, 0, 0, ([] : List Prod)⟩ : Sch), 3))) else (if (([] : List Prod).length + a0.ps.length) * 27 ≤ 140737488355328 then (if 0 ≤ a1 ∧ a1 < ((([] : List Prod) ++ a0.ps).length : Int) then ((spec_l03With (gl zProd (([] : List Prod) ++ a0.ps) a1) a2 a3).bind fun x32 => (spec_l03Factor (gl zProd (([] : List Prod) ++ a0.ps) a1) a2).bind fun x35 => (spec_l01Add a0.p x35 a3 (-1)).bind fun x37 => (spec_l03With (gl zProd (([] : List Prod) ++ a0.ps) a1) a2 x37).bind fun x39 => if (((([] : List Prod) ++ a0.ps).set a1.toNat x32).length + ([x39]).length) * 27 ≤ 140737488355328 then ((spec_l03Told a0 (((([] : List Prod) ++ a0.ps).set a1.toNat x32) ++ [x39])).bind fun x43 => some ((x43, 0))) else none) else none) else none)))))
theorem spec_SplitProduct_ok {w0 : World} {a0 : Sch} {a1 : Int} {a2 : Int} {a3 : Form} {va0 : Value} (h0 : Ro (kf cProd) w0 va0 a0.ps) {r : Sch × Int} (hF : spec_SplitProduct a0 a1 a2 a3 = some r) :
    Calls Try.prog 24 [.agg ([vI a0.p, vI a0.n, vI a0.m, vI a0.k, va0]).toArray, vI a1, vI a2, .agg (cForm.enc a3).toArray].toArray w0 fun e w => ∃ v, e = .returned v ∧ Below w0.heap.size w0 w ∧ ∃ u0, .tuple #[.agg [.int .i64 r.1.p, .int .i64 r.1.n, .int .i64 r.1.m, .int .i64 r.1.k, u0].toArray, .int .i64 r.2] = v ∧ Fresh (kf cProd) 78 w0 w u0 r.1.ps := by
  refine calls_of (k := 91) Try.func24 rfl rfl (Nat.le_of_ble_eq_true rfl) fun a hf => ?_
  replace hf : Fr 91 a [(0, .agg ([vI a0.p, vI a0.n, vI a0.m, vI a0.k, va0]).toArray), (1, vI a1), (2, vI a2), (3, .agg (cForm.enc a3).toArray)] := hf
  refine c_start fun w ρ hw => ?_
  unfold spec_SplitProduct at hF
  refine c_seq <| c_region ?_
  refine sx_ hf (r_box (cs := [vI a0.p, vI a0.n, vI a0.m, vI a0.k, va0]) 1 hw hf rfl rfl) fun a v w hf hΦ => ?_
  obtain ⟨g1, ρ, rfl, hw, hE, o1⟩ := hΦ
  refine sx_ hf (r_box (cs := cForm.enc a3) 2 hw hf rfl rfl) fun a v w hf hΦ => ?_
  obtain ⟨g2, ρ, rfl, hw, hE, o2⟩ := hΦ
  replace o1 := o1.ext hE
  have o4 : Ow (kf cProd) 78 ρ w w0.heap.size 4 (.slice none 0 0) [] := Ow.nil _ _ _ _ _ _
  refine sx_ hf (r_alloc (cs := [vI 0, vI 0, vI 0, vI 0, (.slice none 0 0)]) 3 ze28 rfl hw) fun a v w hf hΦ => ?_
  obtain ⟨g3, ρ, rfl, hw, hE, o3⟩ := hΦ
  replace o1 := o1.ext hE
  replace o2 := o2.ext hE
  replace o4 := o4.ext hE
  refine s_ hf (r_assign hf rfl) fun a hf => ?_
  refine c_nt <| c_seq <| c_block <| c_seq <| c_region ?_
  refine s_ hf (r_load_agg ty28 hf rfl o1.cl rfl) fun a hf => ?_
  obtain ⟨x1, hx2, hF⟩ := of_bind hF
  refine st_fn 5 hw hf rfl rfl (by decide) (r_fn en69 hf rfl) (spec_l01Is_ok (a0 := a0) (h0.now hw) hx2) fun a v w ρ hf hw hE hN hΦ => ?_
  obtain rfl := hΦ
  replace o1 := o1.ext hE
  replace o2 := o2.ext hE
  replace o4 := o4.ext hE
  replace o3 := o3.ext hE
  refine s_ hf (r_not hf rfl) fun a hf => ?_
  refine s_ hf (r_assign hf rfl) fun a hf => ?_
  refine c_nt ?_
  rcases of_ite hF with ⟨hb3, hF⟩ | ⟨hb3, hF⟩
  · refine c_ift hf rfl hb3 <| c_seq <| c_region ?_
    have o6 : Ow (kf cProd) 78 ρ w w0.heap.size 6 (.slice none 0 0) [] := Ow.nil _ _ _ _ _ _
    refine s_ hf (r_build_struct (pl := [(0, 1), (1, 1), (2, 1), (3, 1), (4, 1)]) (vs := []) (res := ([vI 0, vI 0, vI 0, vI 0, (.slice none 0 0)]).toArray) Try.underlying28 (by kernel_rfl) ze28 hf rfl rfl rfl) fun a hf => ?_
    refine sk_ hf (r_store_w (cs' := [vI 0, vI 0, vI 0, vI 0, (.slice none 0 0)]) hw o3 (by decide) ty28 rfl rfl (one_sch o6.ro.one) hf rfl rfl rfl) fun a w hf hΦ => ?_
    obtain ⟨hw, hA, o3⟩ := hΦ
    replace o1 := o1.adv hA (by decide)
    replace o2 := o2.adv hA (by decide)
    replace o4 := o4.adv hA (by decide)
    replace o6 := o6.adv hA (by decide)
    refine s_ hf (r_assign hf rfl) fun a hf => ?_
    refine c_nt <| c_retc ?_
    obtain rfl := Option.some.inj hF
    refine r_block <| r_then <| c_ret hf (res_ct Try.results24 ty28 hf rfl o3.cl rfl rfl) ?_
    exact ⟨_, rfl, hw.below, ⟨_, rfl, o6.out⟩⟩
  refine c_iff hf rfl hb3 <| c_seq ?_
  obtain ⟨s5, hT4, hG4⟩ := of_bind hF
  clear hF
  refine c_meet (fun (s5 : Bool) a w => ∃ ρ, Wd w0 ρ w ∧ Fr 91 a [(1, vI a1), (2, vI a2), (4, .pointer (some ((⟨g1, 0, none⟩ : Addr).add 0))), (7, .pointer (some ((⟨g2, 0, none⟩ : Addr).add 0))), (8, .pointer (some ((⟨g3, 0, none⟩ : Addr).add 0))), (17, .bool s5)] ∧ Va ρ w 1 g1 28 ([vI a0.p, vI a0.n, vI a0.m, vI a0.k, va0]) ∧ Va ρ w 2 g2 39 (cForm.enc a3) ∧ Va ρ w 3 g3 28 ([vI 0, vI 0, vI 0, vI 0, (.slice none 0 0)]) ∧ O78 ρ w w0 4 (.slice none 0 0) ([] : List Prod)) s5 ?_ ?_
  · have hF := hT4
    refine c_region ?_
    refine s_ hf (r_load_agg ty28 hf rfl o1.cl rfl) fun a hf => ?_
    refine s_ hf (r_move hf rfl) fun a hf => ?_
    refine sx_ hf (r_lit (d := fI64) (xs := ([a1] : List Int)) (vs := [vI a1]) 7 Try.underlying61 el2 (Nat.le_of_ble_eq_true rfl) (Nat.le_of_ble_eq_true rfl) hw hf rfl rfl rfl) fun a v7 w hf hΦ => ?_
    obtain ⟨ρ, hw, hE, o7⟩ := hΦ
    replace o1 := o1.ext hE
    replace o2 := o2.ext hE
    replace o4 := o4.ext hE
    replace o3 := o3.ext hE
    obtain ⟨x6, hx7, hF⟩ := of_bind hF
    refine st_fn 8 hw hf rfl rfl (by decide) (r_fn en70 hf rfl) (spec_l03Numbers_ok (a0 := a0) (h0.now hw) o7.ro hx7) fun a v w ρ hf hw hE hN hΦ => ?_
    obtain rfl := hΦ
    replace o1 := o1.ext hE
    replace o2 := o2.ext hE
    replace o4 := o4.ext hE
    replace o3 := o3.ext hE
    replace o7 := o7.ext hE
    refine s_ hf (r_not hf rfl) fun a hf => ?_
    refine s_ hf (r_move hf rfl) fun a hf => ?_
    rcases of_ite hF with ⟨hb8, hF⟩ | ⟨hb8, hF⟩
    · refine st_no (b := true) hf rfl rfl rfl hb8 rfl (by decide) fun a hf => ?_
      refine st_no (b := true) hf rfl rfl rfl hb8 rfl (by decide) fun a hf => ?_
      refine st_no (b := true) hf rfl rfl rfl hb8 rfl (by decide) fun a hf => ?_
      refine s_ hf (r_pick (b := true) hf rfl hb8 rfl) fun a hf => ?_
      refine s_ hf (r_assign hf rfl) fun a hf => ?_
      refine c_nil ⟨rfl, ?_⟩
      obtain rfl := Option.some.inj hF
      exact ⟨_, hw, hf.sub ⟨rfl, rfl, rfl, rfl, rfl, rfl, trivial⟩, o1, o2, o3, o4⟩
    refine st_g (b := false) hf rfl rfl rfl hb8 rfl (by decide) (r_move hf rfl) fun a hf => ?_
    obtain ⟨x9, hx10, hF⟩ := of_bind hF
    refine st_gfn (b := false) 9 hw hf rfl rfl rfl hb8 rfl (by decide) (r_fn en80 hf rfl) (spec_l01In_ok  hx10) fun a v w ρ hf hw hE hN hΦ => ?_
    obtain rfl := hΦ
    replace o1 := o1.ext hE
    replace o2 := o2.ext hE
    replace o4 := o4.ext hE
    replace o3 := o3.ext hE
    replace o7 := o7.ext hE
    refine st_g (b := false) hf rfl rfl rfl hb8 rfl (by decide) (r_not hf rfl) fun a hf => ?_
    refine s_ hf (r_pick (b := false) hf rfl hb8 rfl) fun a hf => ?_
    refine s_ hf (r_assign hf rfl) fun a hf => ?_
    refine c_nil ⟨rfl, ?_⟩
    obtain rfl := Option.some.inj hF
    exact ⟨_, hw, hf.sub ⟨rfl, rfl, rfl, rfl, rfl, rfl, trivial⟩, o1, o2, o3, o4⟩
  rintro a w ⟨ρ, hw, hf, o1, o2, o3, o4⟩
  have hF := hG4
  refine n_then ?_
  rcases of_ite hF with ⟨hb11, hF⟩ | ⟨hb11, hF⟩
  · refine c_ift hf rfl hb11 <| c_seq <| c_region ?_
    have o10 : Ow (kf cProd) 78 ρ w w0.heap.size 10 (.slice none 0 0) [] := Ow.nil _ _ _ _ _ _
    refine s_ hf (r_build_struct (pl := [(0, 1), (1, 1), (2, 1), (3, 1), (4, 1)]) (vs := []) (res := ([vI 0, vI 0, vI 0, vI 0, (.slice none 0 0)]).toArray) Try.underlying28 (by kernel_rfl) ze28 hf rfl rfl rfl) fun a hf => ?_
    refine sk_ hf (r_store_w (cs' := [vI 0, vI 0, vI 0, vI 0, (.slice none 0 0)]) hw o3 (by decide) ty28 rfl rfl (one_sch o10.ro.one) hf rfl rfl rfl) fun a w hf hΦ => ?_
    obtain ⟨hw, hA, o3⟩ := hΦ
    replace o1 := o1.adv hA (by decide)
    replace o2 := o2.adv hA (by decide)
    replace o4 := o4.adv hA (by decide)
    replace o10 := o10.adv hA (by decide)
    refine s_ hf (r_assign hf rfl) fun a hf => ?_
    refine c_nt <| c_retc ?_
    obtain rfl := Option.some.inj hF
    refine r_block <| r_then <| c_ret hf (res_ct Try.results24 ty28 hf rfl o3.cl rfl rfl) ?_
    exact ⟨_, rfl, hw.below, ⟨_, rfl, o10.out⟩⟩
  refine c_iff hf rfl hb11 <| c_seq ?_
  obtain ⟨x12, hx13, hF⟩ := of_bind hF
  replace hf : Fr 91 a [(1, vI a1), (2, vI a2), (4, .pointer (some ((⟨g1, 0, none⟩ : Addr).add 0))), (7, .pointer (some ((⟨g2, 0, none⟩ : Addr).add 0))), (8, .pointer (some ((⟨g3, 0, none⟩ : Addr).add 0)))] := hf.sub ⟨rfl, rfl, rfl, rfl, rfl, trivial⟩
  refine c_drawL (h := 6) mixed (by kernel_rfl) (by kernel_rfl) (fun ρ w => Va ρ w 1 g1 28 ([vI a0.p, vI a0.n, vI a0.m, vI a0.k, va0]) ∧ Va ρ w 2 g2 39 (cForm.enc a3) ∧ Va ρ w 3 g3 28 ([vI 0, vI 0, vI 0, vI 0, (.slice none 0 0)]) ∧ O78 ρ w w0 4 (.slice none 0 0) ([] : List Prod)) ?_ [fun ρ w v => .pointer (some ((⟨g1, 0, none⟩ : Addr).add (0 + 0))) = v, fun ρ w v => vI a0.p = v, fun ρ w v => .agg (cForm.enc a3).toArray = v, fun ρ w v => .agg ([vI a0.p, vI a0.n, vI a0.m, vI a0.k, va0]).toArray = v, fun ρ w v => vI a2 = v, fun ρ w v => vI x12 = v] ?_ hw ⟨o1, o2, o3, o4⟩ hf ?_ ?_
  · intro ρ w ρ' w' hE hG
    obtain ⟨o1, o2, o3, o4⟩ := hG
    exact ⟨o1.ext hE, o2.ext hE, o3.ext hE, o4.ext hE⟩
  · exact LastsL.cons (fun _ _ _ _ _ _ h => h) <| LastsL.cons (fun _ _ _ _ _ _ h => h) <| LastsL.cons (fun _ _ _ _ _ _ h => h) <| LastsL.cons (fun _ _ _ _ _ _ h => h) <| LastsL.cons (fun _ _ _ _ _ _ h => h) <| LastsL.cons (fun _ _ _ _ _ _ h => h) <| LastsL.nil
  · refine StepsB.cons ?_ <| StepsB.cons ?_ <| StepsB.cons ?_ <| StepsB.cons ?_ <| StepsB.cons ?_ <| StepsB.cons ?_ <| StepsB.nil
    · intro ρ w a hw hG hf hd K hK
      obtain ⟨o1, o2, o3, o4⟩ := hG
      exact dv_ hK hw (wn rfl) (r_fa fa28_0 hf rfl) rfl
    · intro ρ w a hw hG hf hd K hK
      obtain ⟨o1, o2, o3, o4⟩ := hG
      obtain ⟨_, hf, rfl⟩ := got (hd 0 (by kernel_rfl)) hf
      exact dv_ hK hw (wn rfl) (r_load_cell ty2 hf rfl (o1.cl.at_ 0 _ rfl)) rfl
    · intro ρ w a hw hG hf hd K hK
      obtain ⟨o1, o2, o3, o4⟩ := hG
      exact dv_ hK hw (wn rfl) (r_load_agg ty39 hf rfl o2.cl (cForm.len _)) rfl
    · intro ρ w a hw hG hf hd K hK
      obtain ⟨o1, o2, o3, o4⟩ := hG
      exact dv_ hK hw (wn rfl) (r_load_agg ty28 hf rfl o1.cl rfl) rfl
    · intro ρ w a hw hG hf hd K hK
      obtain ⟨o1, o2, o3, o4⟩ := hG
      exact dv_ hK hw (wn rfl) (r_move hf rfl) rfl
    · intro ρ w a hw hG hf hd K hK
      obtain ⟨o1, o2, o3, o4⟩ := hG
      obtain ⟨_, hf, rfl⟩ := got (hd 3 (by kernel_rfl)) hf
      obtain ⟨_, hf, rfl⟩ := got (hd 4 (by kernel_rfl)) hf
      refine dc_ hK hw (wn rfl) (r_fn en82 hf rfl) (spec_l03Length_ok (a0 := a0) (h0.now hw) hx13) fun v w' hΦ => ?_
      obtain ⟨hb, hΦ⟩ := hΦ
      obtain rfl := hΦ
      have hE := Ext.new (ρ := ρ) 11 hb
      exact ⟨_, hw.new 11 hb, hE, rfl⟩
  intro ρ w a hw hG hf hd
  obtain ⟨o1, o2, o3, o4⟩ := hG
  obtain ⟨_, hf, rfl⟩ := got (hd 1 (by decide)) hf
  obtain ⟨_, hf, rfl⟩ := got (hd 2 (by decide)) hf
  obtain ⟨_, hf, rfl⟩ := got (hd 5 (by decide)) hf
  obtain ⟨x14, hx15, hF⟩ := of_bind hF
  refine st_fn 12 hw hf rfl rfl (by decide) (r_fn en81 hf rfl) (spec_l01Form_ok  hx15) fun a v w ρ hf hw hE hN hΦ => ?_
  obtain rfl := hΦ
  replace o1 := o1.ext hE
  replace o2 := o2.ext hE
  replace o3 := o3.ext hE
  replace o4 := o4.ext hE
  refine s_ hf (r_not hf rfl) fun a hf => ?_
  refine s_ hf (r_assign hf rfl) fun a hf => ?_
  refine c_nt ?_
  rcases of_ite hF with ⟨hb16, hF⟩ | ⟨hb16, hF⟩
  · refine c_ift hf rfl hb16 <| c_seq <| c_region ?_
    have o13 : Ow (kf cProd) 78 ρ w w0.heap.size 13 (.slice none 0 0) [] := Ow.nil _ _ _ _ _ _
    refine s_ hf (r_build_struct (pl := [(0, 1), (1, 1), (2, 1), (3, 1), (4, 1)]) (vs := []) (res := ([vI 0, vI 0, vI 0, vI 0, (.slice none 0 0)]).toArray) Try.underlying28 (by kernel_rfl) ze28 hf rfl rfl rfl) fun a hf => ?_
    refine sk_ hf (r_store_w (cs' := [vI 0, vI 0, vI 0, vI 0, (.slice none 0 0)]) hw o3 (by decide) ty28 rfl rfl (one_sch o13.ro.one) hf rfl rfl rfl) fun a w hf hΦ => ?_
    obtain ⟨hw, hA, o3⟩ := hΦ
    replace o1 := o1.adv hA (by decide)
    replace o2 := o2.adv hA (by decide)
    replace o4 := o4.adv hA (by decide)
    replace o13 := o13.adv hA (by decide)
    refine s_ hf (r_assign hf rfl) fun a hf => ?_
    refine c_nt <| c_retc ?_
    obtain rfl := Option.some.inj hF
    refine r_block <| r_then <| c_ret hf (res_ct Try.results24 ty28 hf rfl o3.cl rfl rfl) ?_
    exact ⟨_, rfl, hw.below, ⟨_, rfl, o13.out⟩⟩
  refine c_iff hf rfl hb16 <| c_seq ?_
  obtain ⟨s18, hT17, hG17⟩ := of_bind hF
  clear hF
  refine c_meet (fun (s18 : Bool) a w => ∃ ρ, Wd w0 ρ w ∧ Fr 91 a [(1, vI a1), (2, vI a2), (4, .pointer (some ((⟨g1, 0, none⟩ : Addr).add 0))), (7, .pointer (some ((⟨g2, 0, none⟩ : Addr).add 0))), (8, .pointer (some ((⟨g3, 0, none⟩ : Addr).add 0))), (39, .bool s18)] ∧ Va ρ w 1 g1 28 ([vI a0.p, vI a0.n, vI a0.m, vI a0.k, va0]) ∧ Va ρ w 2 g2 39 (cForm.enc a3) ∧ Va ρ w 3 g3 28 ([vI 0, vI 0, vI 0, vI 0, (.slice none 0 0)]) ∧ O78 ρ w w0 4 (.slice none 0 0) ([] : List Prod)) s18 ?_ ?_
  · have hF := hT17
    obtain ⟨x19, hx20, hF⟩ := of_bind hF
    rcases of_ite hF with ⟨hb21, hF⟩ | ⟨hb21, hF⟩
    · replace hf : Fr 91 a [(1, vI a1), (2, vI a2), (4, .pointer (some ((⟨g1, 0, none⟩ : Addr).add 0))), (7, .pointer (some ((⟨g2, 0, none⟩ : Addr).add 0))), (8, .pointer (some ((⟨g3, 0, none⟩ : Addr).add 0)))] := hf.sub ⟨rfl, rfl, rfl, rfl, rfl, trivial⟩
      refine c_drawL (h := 11) mixed (by kernel_rfl) (by kernel_rfl) (fun ρ w => Va ρ w 1 g1 28 ([vI a0.p, vI a0.n, vI a0.m, vI a0.k, va0]) ∧ Va ρ w 2 g2 39 (cForm.enc a3) ∧ Va ρ w 3 g3 28 ([vI 0, vI 0, vI 0, vI 0, (.slice none 0 0)]) ∧ O78 ρ w w0 4 (.slice none 0 0) ([] : List Prod)) ?_ [fun ρ w v => .agg (cForm.enc a3).toArray = v, fun ρ w v => .bool x19 = v, fun ρ w v => .bool x19 = v, fun ρ w v => undef = v, fun ρ w v => undef = v, fun ρ w v => undef = v, fun ρ w v => undef = v, fun ρ w v => undef = v, fun ρ w v => undef = v, fun ρ w v => undef = v, fun ρ w v => undef = v] ?_ hw ⟨o1, o2, o3, o4⟩ hf ?_ ?_
      · intro ρ w ρ' w' hE hG
        obtain ⟨o1, o2, o3, o4⟩ := hG
        exact ⟨o1.ext hE, o2.ext hE, o3.ext hE, o4.ext hE⟩
      · exact LastsL.cons (fun _ _ _ _ _ _ h => h) <| LastsL.cons (fun _ _ _ _ _ _ h => h) <| LastsL.cons (fun _ _ _ _ _ _ h => h) <| LastsL.cons (fun _ _ _ _ _ _ h => h) <| LastsL.cons (fun _ _ _ _ _ _ h => h) <| LastsL.cons (fun _ _ _ _ _ _ h => h) <| LastsL.cons (fun _ _ _ _ _ _ h => h) <| LastsL.cons (fun _ _ _ _ _ _ h => h) <| LastsL.cons (fun _ _ _ _ _ _ h => h) <| LastsL.cons (fun _ _ _ _ _ _ h => h) <| LastsL.cons (fun _ _ _ _ _ _ h => h) <| LastsL.nil
      · refine StepsB.cons ?_ <| StepsB.cons ?_ <| StepsB.cons ?_ <| StepsB.cons ?_ <| StepsB.cons ?_ <| StepsB.cons ?_ <| StepsB.cons ?_ <| StepsB.cons ?_ <| StepsB.cons ?_ <| StepsB.cons ?_ <| StepsB.cons ?_ <| StepsB.nil
        · intro ρ w a hw hG hf hd K hK
          obtain ⟨o1, o2, o3, o4⟩ := hG
          exact dv_ hK hw (wn rfl) (r_load_agg ty39 hf rfl o2.cl (cForm.len _)) rfl
        · intro ρ w a hw hG hf hd K hK
          obtain ⟨o1, o2, o3, o4⟩ := hG
          obtain ⟨_, hf, rfl⟩ := got (hd 0 (by kernel_rfl)) hf
          refine dc_ hK hw (wn rfl) (r_fn en83 hf rfl) (spec_l01Zero_ok  hx20) fun v w' hΦ => ?_
          obtain ⟨hb, hΦ⟩ := hΦ
          obtain rfl := hΦ
          have hE := Ext.new (ρ := ρ) 14 hb
          exact ⟨_, hw.new 14 hb, hE, rfl⟩
        · intro ρ w a hw hG hf hd K hK
          obtain ⟨o1, o2, o3, o4⟩ := hG
          obtain ⟨_, hf, rfl⟩ := got (hd 1 (by kernel_rfl)) hf
          exact dv_ hK hw (wn rfl) (r_move hf rfl) rfl
        · intro ρ w a hw hG hf hd K hK
          obtain ⟨o1, o2, o3, o4⟩ := hG
          obtain ⟨_, hf, rfl⟩ := got (hd 2 (by kernel_rfl)) hf
          exact do_ hK (b := true) hw hf rfl rfl rfl hb21 rfl rfl
        · intro ρ w a hw hG hf hd K hK
          obtain ⟨o1, o2, o3, o4⟩ := hG
          obtain ⟨_, hf, rfl⟩ := got (hd 2 (by kernel_rfl)) hf
          exact do_ hK (b := true) hw hf rfl rfl rfl hb21 rfl rfl
        · intro ρ w a hw hG hf hd K hK
          obtain ⟨o1, o2, o3, o4⟩ := hG
          obtain ⟨_, hf, rfl⟩ := got (hd 2 (by kernel_rfl)) hf
          obtain ⟨_, hf, rfl⟩ := got (hd 4 (by kernel_rfl)) hf
          exact do_ hK (b := true) hw hf rfl rfl rfl hb21 rfl rfl
        · intro ρ w a hw hG hf hd K hK
          obtain ⟨o1, o2, o3, o4⟩ := hG
          obtain ⟨_, hf, rfl⟩ := got (hd 2 (by kernel_rfl)) hf
          exact do_ hK (b := true) hw hf rfl rfl rfl hb21 rfl rfl
        · intro ρ w a hw hG hf hd K hK
          obtain ⟨o1, o2, o3, o4⟩ := hG
          obtain ⟨_, hf, rfl⟩ := got (hd 2 (by kernel_rfl)) hf
          obtain ⟨_, hf, rfl⟩ := got (hd 5 (by kernel_rfl)) hf
          obtain ⟨_, hf, rfl⟩ := got (hd 6 (by kernel_rfl)) hf
          exact do_ hK (b := true) hw hf rfl rfl rfl hb21 rfl rfl
        · intro ρ w a hw hG hf hd K hK
          obtain ⟨o1, o2, o3, o4⟩ := hG
          obtain ⟨_, hf, rfl⟩ := got (hd 2 (by kernel_rfl)) hf
          obtain ⟨_, hf, rfl⟩ := got (hd 7 (by kernel_rfl)) hf
          exact do_ hK (b := true) hw hf rfl rfl rfl hb21 rfl rfl
        · intro ρ w a hw hG hf hd K hK
          obtain ⟨o1, o2, o3, o4⟩ := hG
          obtain ⟨_, hf, rfl⟩ := got (hd 2 (by kernel_rfl)) hf
          exact do_ hK (b := true) hw hf rfl rfl rfl hb21 rfl rfl
        · intro ρ w a hw hG hf hd K hK
          obtain ⟨o1, o2, o3, o4⟩ := hG
          obtain ⟨_, hf, rfl⟩ := got (hd 2 (by kernel_rfl)) hf
          obtain ⟨_, hf, rfl⟩ := got (hd 8 (by kernel_rfl)) hf
          obtain ⟨_, hf, rfl⟩ := got (hd 9 (by kernel_rfl)) hf
          exact do_ hK (b := true) hw hf rfl rfl rfl hb21 rfl rfl
      intro ρ w a hw hG hf hd
      obtain ⟨o1, o2, o3, o4⟩ := hG
      obtain ⟨_, hf, rfl⟩ := got (hd 2 (by decide)) hf
      obtain ⟨_, hf, rfl⟩ := got (hd 3 (by decide)) hf
      obtain ⟨_, hf, rfl⟩ := got (hd 10 (by decide)) hf
      refine st_no (b := true) hf rfl rfl rfl hb21 rfl (by decide) fun a hf => ?_
      refine s_ hf (r_pick (b := true) hf rfl hb21 rfl) fun a hf => ?_
      refine s_ hf (r_assign hf rfl) fun a hf => ?_
      refine c_nil ⟨rfl, ?_⟩
      obtain rfl := Option.some.inj hF
      exact ⟨_, hw, hf.sub ⟨rfl, rfl, rfl, rfl, rfl, rfl, trivial⟩, o1, o2, o3, o4⟩
    obtain ⟨hc22, hF⟩ := of_guard hF
    obtain ⟨ad23, c23, he23, hl23⟩ := Ro.el cProd h0 zProd hc22.1 hc22.2
    obtain ⟨x24, hx25, hF⟩ := of_bind hF
    replace hf : Fr 91 a [(1, vI a1), (2, vI a2), (4, .pointer (some ((⟨g1, 0, none⟩ : Addr).add 0))), (7, .pointer (some ((⟨g2, 0, none⟩ : Addr).add 0))), (8, .pointer (some ((⟨g3, 0, none⟩ : Addr).add 0)))] := hf.sub ⟨rfl, rfl, rfl, rfl, rfl, trivial⟩
    refine c_drawL (h := 11) mixed (by kernel_rfl) (by kernel_rfl) (fun ρ w => Va ρ w 1 g1 28 ([vI a0.p, vI a0.n, vI a0.m, vI a0.k, va0]) ∧ Va ρ w 2 g2 39 (cForm.enc a3) ∧ Va ρ w 3 g3 28 ([vI 0, vI 0, vI 0, vI 0, (.slice none 0 0)]) ∧ O78 ρ w w0 4 (.slice none 0 0) ([] : List Prod)) ?_ [fun ρ w v => .agg (cForm.enc a3).toArray = v, fun ρ w v => .bool x19 = v, fun ρ w v => .bool x19 = v, fun ρ w v => .agg (cForm.enc a3).toArray = v, fun ρ w v => .pointer (some ((⟨g1, 0, none⟩ : Addr).add (0 + 4))) = v, fun ρ w v => va0 = v, fun ρ w v => vI a1 = v, fun ρ w v => .pointer (some (ad23.add (a1.toNat * 27))) = v, fun ρ w v => .agg (cProd.enc (gl zProd a0.ps a1)).toArray = v, fun ρ w v => vI a2 = v, fun ρ w v => .agg (cForm.enc x24).toArray = v] ?_ hw ⟨o1, o2, o3, o4⟩ hf ?_ ?_
    · intro ρ w ρ' w' hE hG
      obtain ⟨o1, o2, o3, o4⟩ := hG
      exact ⟨o1.ext hE, o2.ext hE, o3.ext hE, o4.ext hE⟩
    · exact LastsL.cons (fun _ _ _ _ _ _ h => h) <| LastsL.cons (fun _ _ _ _ _ _ h => h) <| LastsL.cons (fun _ _ _ _ _ _ h => h) <| LastsL.cons (fun _ _ _ _ _ _ h => h) <| LastsL.cons (fun _ _ _ _ _ _ h => h) <| LastsL.cons (fun _ _ _ _ _ _ h => h) <| LastsL.cons (fun _ _ _ _ _ _ h => h) <| LastsL.cons (fun _ _ _ _ _ _ h => h) <| LastsL.cons (fun _ _ _ _ _ _ h => h) <| LastsL.cons (fun _ _ _ _ _ _ h => h) <| LastsL.cons (fun _ _ _ _ _ _ h => h) <| LastsL.nil
    · refine StepsB.cons ?_ <| StepsB.cons ?_ <| StepsB.cons ?_ <| StepsB.cons ?_ <| StepsB.cons ?_ <| StepsB.cons ?_ <| StepsB.cons ?_ <| StepsB.cons ?_ <| StepsB.cons ?_ <| StepsB.cons ?_ <| StepsB.cons ?_ <| StepsB.nil
      · intro ρ w a hw hG hf hd K hK
        obtain ⟨o1, o2, o3, o4⟩ := hG
        exact dv_ hK hw (wn rfl) (r_load_agg ty39 hf rfl o2.cl (cForm.len _)) rfl
      · intro ρ w a hw hG hf hd K hK
        obtain ⟨o1, o2, o3, o4⟩ := hG
        obtain ⟨_, hf, rfl⟩ := got (hd 0 (by kernel_rfl)) hf
        refine dc_ hK hw (wn rfl) (r_fn en83 hf rfl) (spec_l01Zero_ok  hx20) fun v w' hΦ => ?_
        obtain ⟨hb, hΦ⟩ := hΦ
        obtain rfl := hΦ
        have hE := Ext.new (ρ := ρ) 14 hb
        exact ⟨_, hw.new 14 hb, hE, rfl⟩
      · intro ρ w a hw hG hf hd K hK
        obtain ⟨o1, o2, o3, o4⟩ := hG
        obtain ⟨_, hf, rfl⟩ := got (hd 1 (by kernel_rfl)) hf
        exact dv_ hK hw (wn rfl) (r_move hf rfl) rfl
      · intro ρ w a hw hG hf hd K hK
        obtain ⟨o1, o2, o3, o4⟩ := hG
        obtain ⟨_, hf, rfl⟩ := got (hd 2 (by kernel_rfl)) hf
        exact dv_ hK hw (wg (b := false) hf rfl rfl rfl hb21) (r_load_agg ty39 hf rfl o2.cl (cForm.len _)) rfl
      · intro ρ w a hw hG hf hd K hK
        obtain ⟨o1, o2, o3, o4⟩ := hG
        obtain ⟨_, hf, rfl⟩ := got (hd 2 (by kernel_rfl)) hf
        exact dv_ hK hw (wg (b := false) hf rfl rfl rfl hb21) (r_fa fa28_4 hf rfl) rfl
      · intro ρ w a hw hG hf hd K hK
        obtain ⟨o1, o2, o3, o4⟩ := hG
        obtain ⟨_, hf, rfl⟩ := got (hd 2 (by kernel_rfl)) hf
        obtain ⟨_, hf, rfl⟩ := got (hd 4 (by kernel_rfl)) hf
        exact dv_ hK hw (wg (b := false) hf rfl rfl rfl hb21) (r_load_cell ty26 hf rfl (o1.cl.at_ 4 _ rfl)) rfl
      · intro ρ w a hw hG hf hd K hK
        obtain ⟨o1, o2, o3, o4⟩ := hG
        obtain ⟨_, hf, rfl⟩ := got (hd 2 (by kernel_rfl)) hf
        exact dv_ hK hw (wg (b := false) hf rfl rfl rfl hb21) (r_move hf rfl) rfl
      · intro ρ w a hw hG hf hd K hK
        obtain ⟨o1, o2, o3, o4⟩ := hG
        obtain ⟨_, hf, rfl⟩ := got (hd 2 (by kernel_rfl)) hf
        obtain ⟨_, hf, rfl⟩ := got (hd 5 (by kernel_rfl)) hf
        obtain ⟨_, hf, rfl⟩ := got (hd 6 (by kernel_rfl)) hf
        exact dv_ hK hw (wg (b := false) hf rfl rfl rfl hb21) (r_idx Try.underlying26 sz78 hf rfl ⟨_, he23⟩ rfl hc22.1 hc22.2) rfl
      · intro ρ w a hw hG hf hd K hK
        obtain ⟨o1, o2, o3, o4⟩ := hG
        obtain ⟨_, hf, rfl⟩ := got (hd 2 (by kernel_rfl)) hf
        obtain ⟨_, hf, rfl⟩ := got (hd 7 (by kernel_rfl)) hf
        exact dv_ hK hw (wg (b := false) hf rfl rfl rfl hb21) (r_load_agg ty78 hf rfl (hl23.below hw.below) (cProd.len _)) rfl
      · intro ρ w a hw hG hf hd K hK
        obtain ⟨o1, o2, o3, o4⟩ := hG
        obtain ⟨_, hf, rfl⟩ := got (hd 2 (by kernel_rfl)) hf
        exact dv_ hK hw (wg (b := false) hf rfl rfl rfl hb21) (r_move hf rfl) rfl
      · intro ρ w a hw hG hf hd K hK
        obtain ⟨o1, o2, o3, o4⟩ := hG
        obtain ⟨_, hf, rfl⟩ := got (hd 2 (by kernel_rfl)) hf
        obtain ⟨_, hf, rfl⟩ := got (hd 8 (by kernel_rfl)) hf
        obtain ⟨_, hf, rfl⟩ := got (hd 9 (by kernel_rfl)) hf
        refine dc_ hK hw (wg (b := false) hf rfl rfl rfl hb21) (r_fn en84 hf rfl) (spec_l03Factor_ok  hx25) fun v w' hΦ => ?_
        obtain ⟨hb, hΦ⟩ := hΦ
        obtain rfl := hΦ
        have hE := Ext.new (ρ := ρ) 15 hb
        exact ⟨_, hw.new 15 hb, hE, rfl⟩
    intro ρ w a hw hG hf hd
    obtain ⟨o1, o2, o3, o4⟩ := hG
    obtain ⟨_, hf, rfl⟩ := got (hd 2 (by decide)) hf
    obtain ⟨_, hf, rfl⟩ := got (hd 3 (by decide)) hf
    obtain ⟨_, hf, rfl⟩ := got (hd 10 (by decide)) hf
    refine st_g (b := false) hf rfl rfl rfl hb21 rfl (by decide) (r_eq (d := cForm) eq39 ⟨_, rfl⟩ gt39 hf rfl rfl) fun a hf => ?_
    refine s_ hf (r_pick (b := false) hf rfl hb21 rfl) fun a hf => ?_
    refine s_ hf (r_assign hf rfl) fun a hf => ?_
    refine c_nil ⟨rfl, ?_⟩
    obtain rfl := Option.some.inj hF
    exact ⟨_, hw, hf.sub ⟨rfl, rfl, rfl, rfl, rfl, rfl, trivial⟩, o1, o2, o3, o4⟩
  rintro a w ⟨ρ, hw, hf, o1, o2, o3, o4⟩
  have hF := hG17
  refine n_then ?_
  rcases of_ite hF with ⟨hb26, hF⟩ | ⟨hb26, hF⟩
  · refine c_ift hf rfl hb26 <| c_seq <| c_region ?_
    have o16 : Ow (kf cProd) 78 ρ w w0.heap.size 16 (.slice none 0 0) [] := Ow.nil _ _ _ _ _ _
    refine s_ hf (r_build_struct (pl := [(0, 1), (1, 1), (2, 1), (3, 1), (4, 1)]) (vs := []) (res := ([vI 0, vI 0, vI 0, vI 0, (.slice none 0 0)]).toArray) Try.underlying28 (by kernel_rfl) ze28 hf rfl rfl rfl) fun a hf => ?_
    refine sk_ hf (r_store_w (cs' := [vI 0, vI 0, vI 0, vI 0, (.slice none 0 0)]) hw o3 (by decide) ty28 rfl rfl (one_sch o16.ro.one) hf rfl rfl rfl) fun a w hf hΦ => ?_
    obtain ⟨hw, hA, o3⟩ := hΦ
    replace o1 := o1.adv hA (by decide)
    replace o2 := o2.adv hA (by decide)
    replace o4 := o4.adv hA (by decide)
    replace o16 := o16.adv hA (by decide)
    refine s_ hf (r_assign hf rfl) fun a hf => ?_
    refine c_nt <| c_retc ?_
    obtain rfl := Option.some.inj hF
    refine r_block <| r_then <| c_ret hf (res_ct Try.results24 ty28 hf rfl o3.cl rfl rfl) ?_
    exact ⟨_, rfl, hw.below, ⟨_, rfl, o16.out⟩⟩
  refine c_iff hf rfl hb26 <| c_seq <| c_region ?_
  refine s_ hf (r_fa fa28_4 hf rfl) fun a hf => ?_
  refine s_ hf (r_load_cell ty26 hf rfl (o1.cl.at_ 4 _ rfl)) fun a hf => ?_
  refine s_ hf (r_len Try.underlying26 (h0.now hw) hf rfl) fun a hf => ?_
  refine s_ hf (r_eql hf rfl rfl) fun a hf => ?_
  refine s_ hf (r_assign hf rfl) fun a hf => ?_
  refine c_nt ?_
  rcases of_ite hF with ⟨hb27, hF⟩ | ⟨hb27, hF⟩
  · refine c_ift hf rfl hb27 <| c_seq <| c_region ?_
    have o17 : Ow (kf cProd) 78 ρ w w0.heap.size 17 (.slice none 0 0) [] := Ow.nil _ _ _ _ _ _
    refine s_ hf (r_build_struct (pl := [(0, 1), (1, 1), (2, 1), (3, 1), (4, 1)]) (vs := []) (res := ([vI 0, vI 0, vI 0, vI 0, (.slice none 0 0)]).toArray) Try.underlying28 (by kernel_rfl) ze28 hf rfl rfl rfl) fun a hf => ?_
    refine sk_ hf (r_store_w (cs' := [vI 0, vI 0, vI 0, vI 0, (.slice none 0 0)]) hw o3 (by decide) ty28 rfl rfl (one_sch o17.ro.one) hf rfl rfl rfl) fun a w hf hΦ => ?_
    obtain ⟨hw, hA, o3⟩ := hΦ
    replace o1 := o1.adv hA (by decide)
    replace o2 := o2.adv hA (by decide)
    replace o4 := o4.adv hA (by decide)
    replace o17 := o17.adv hA (by decide)
    refine s_ hf (r_assign hf rfl) fun a hf => ?_
    refine c_nt <| c_retc ?_
    obtain rfl := Option.some.inj hF
    refine r_block <| r_then <| c_ret hf (res_ct Try.results24 ty28 hf rfl o3.cl rfl rfl) ?_
    exact ⟨_, rfl, hw.below, ⟨_, rfl, o17.out⟩⟩
  refine c_iff hf rfl hb27 <| c_skip <| n_block <| n_then <| c_seq <| c_region ?_
  refine sx_ hf (r_lit (d := cProd) (xs := ([] : List Prod)) (vs := []) 18 Try.underlying26 el78 (Nat.le_of_ble_eq_true rfl) (Nat.le_of_ble_eq_true rfl) hw hf rfl rfl rfl) fun a v18 w hf hΦ => ?_
  obtain ⟨ρ, hw, hE, o18⟩ := hΦ
  replace o1 := o1.ext hE
  replace o2 := o2.ext hE
  replace o3 := o3.ext hE
  replace o4 := o4.ext hE
  refine s_ hf (r_fa fa28_4 hf rfl) fun a hf => ?_
  refine s_ hf (r_load_cell ty26 hf rfl (o1.cl.at_ 4 _ rfl)) fun a hf => ?_
  obtain ⟨hc28, hF⟩ := of_guard hF
  refine sx_ hf (r_append Try.underlying26 el78 hw (by decide) o18 (h0.now hw) hc28 hf rfl rfl) fun a va29 w hf hΦ => ?_
  obtain ⟨ρ, hw, hA, o18⟩ := hΦ
  replace o1 := o1.adv hA (by decide)
  replace o2 := o2.adv hA (by decide)
  replace o3 := o3.adv hA (by decide)
  replace o4 := o4.adv hA (by decide)
  refine s_ hf (r_assign hf rfl) fun a hf => ?_
  refine c_nt <| c_seq <| c_region ?_
  refine s_ hf (r_move hf rfl) fun a hf => ?_
  refine s_ hf (r_move hf rfl) fun a hf => ?_
  obtain ⟨hc30, hF⟩ := of_guard hF
  obtain ⟨ad31, hl31⟩ := Ow.ce (d := cProd) o18 zProd hc30.1 hc30.2
  refine s_ hf (r_idx Try.underlying26 sz78 hf rfl hl31.at_ rfl hc30.1 hc30.2) fun a hf => ?_
  refine s_ hf (r_load_agg ty78 hf rfl hl31.co.cl (cProd.len _)) fun a hf => ?_
  refine sx_ hf (r_alloc (cs := cProd.enc zProd) 20 ze78 rfl hw) fun a v w hf hΦ => ?_
  obtain ⟨g20, ρ, rfl, hw, hE, o20⟩ := hΦ
  replace o1 := o1.ext hE
  replace o2 := o2.ext hE
  replace o3 := o3.ext hE
  replace o4 := o4.ext hE
  replace o18 := o18.ext hE
  replace hl31 := hl31.ext hE
  refine sk_ hf (r_store_w (cs' := cProd.enc (gl zProd (([] : List Prod) ++ a0.ps) a1)) hw o20 (by decide) ty78 (cProd.len _) (cProd.len _) (cProd.one _) hf rfl rfl rfl) fun a w hf hΦ => ?_
  obtain ⟨hw, hA, o20⟩ := hΦ
  replace o1 := o1.adv hA (by decide)
  replace o2 := o2.adv hA (by decide)
  replace o3 := o3.adv hA (by decide)
  replace o4 := o4.adv hA (by decide)
  replace o18 := o18.adv hA (by decide)
  replace hl31 := hl31.adv hA (by decide)
  refine c_nt <| c_seq <| c_region ?_
  refine s_ hf (r_move hf rfl) fun a hf => ?_
  refine s_ hf (r_move hf rfl) fun a hf => ?_
  refine s_ hf (r_load_agg ty78 hf rfl o20.cl (cProd.len _)) fun a hf => ?_
  refine s_ hf (r_move hf rfl) fun a hf => ?_
  refine s_ hf (r_load_agg ty39 hf rfl o2.cl (cForm.len _)) fun a hf => ?_
  obtain ⟨x32, hx33, hF⟩ := of_bind hF
  refine st_fn 21 hw hf rfl rfl (by decide) (r_fn en71 hf rfl) (spec_l03With_ok  hx33) fun a v w ρ hf hw hE hN hΦ => ?_
  obtain rfl := hΦ
  replace o1 := o1.ext hE
  replace o2 := o2.ext hE
  replace o3 := o3.ext hE
  replace o4 := o4.ext hE
  replace o18 := o18.ext hE
  replace hl31 := hl31.ext hE
  replace o20 := o20.ext hE
  obtain ⟨ad34, hl34⟩ := Ow.ce (d := cProd) o18 zProd hc30.1 hc30.2
  refine s_ hf (r_idx Try.underlying26 sz78 hf rfl hl34.at_ rfl hc30.1 hc30.2) fun a hf => ?_
  refine sk_ hf (r_store_ec (b := x32) zProd hw (by decide) o18 hc30.1 hc30.2 (Lens.id _) hl34.at_ ty78 (by first | rfl | exact Nat.add_assoc _ _ _ | (simp only [Nat.add_assoc]; rfl)) hf rfl rfl rfl) fun a w hf hΦ => ?_
  obtain ⟨hw, hA, o18⟩ := hΦ
  replace o1 := o1.adv hA (by decide)
  replace o2 := o2.adv hA (by decide)
  replace o3 := o3.adv hA (by decide)
  replace o4 := o4.adv hA (by decide)
  replace o20 := o20.adv hA (by decide)
  refine c_nt <| c_seq ?_
  obtain ⟨x35, hx36, hF⟩ := of_bind hF
  obtain ⟨x37, hx38, hF⟩ := of_bind hF
  obtain ⟨x39, hx40, hF⟩ := of_bind hF
  replace hf : Fr 91 a [(2, vI a2), (4, .pointer (some ((⟨g1, 0, none⟩ : Addr).add 0))), (7, .pointer (some ((⟨g2, 0, none⟩ : Addr).add 0))), (8, .pointer (some ((⟨g3, 0, none⟩ : Addr).add 0))), (10, va29), (11, .pointer (some ((⟨g20, 0, none⟩ : Addr).add 0)))] := hf.sub ⟨rfl, rfl, rfl, rfl, rfl, rfl, trivial⟩
  refine c_drawL (h := 12) mixed (by kernel_rfl) (by kernel_rfl) (fun ρ w => Va ρ w 1 g1 28 ([vI a0.p, vI a0.n, vI a0.m, vI a0.k, va0]) ∧ Va ρ w 2 g2 39 (cForm.enc a3) ∧ Va ρ w 3 g3 28 ([vI 0, vI 0, vI 0, vI 0, (.slice none 0 0)]) ∧ O78 ρ w w0 4 (.slice none 0 0) ([] : List Prod) ∧ O78 ρ w w0 18 va29 ((([] : List Prod) ++ a0.ps).set a1.toNat x32) ∧ Va ρ w 20 g20 78 (cProd.enc (gl zProd (([] : List Prod) ++ a0.ps) a1))) ?_ [fun ρ w v => va29 = v, fun ρ w v => .agg (cProd.enc (gl zProd (([] : List Prod) ++ a0.ps) a1)).toArray = v, fun ρ w v => vI a2 = v, fun ρ w v => .pointer (some ((⟨g1, 0, none⟩ : Addr).add (0 + 0))) = v, fun ρ w v => vI a0.p = v, fun ρ w v => .agg (cProd.enc (gl zProd (([] : List Prod) ++ a0.ps) a1)).toArray = v, fun ρ w v => vI a2 = v, fun ρ w v => .agg (cForm.enc x35).toArray = v, fun ρ w v => .agg (cForm.enc a3).toArray = v, fun ρ w v => .agg (cForm.enc x37).toArray = v, fun ρ w v => .agg (cProd.enc x39).toArray = v, fun ρ w v => ∃ v26, v26 = v ∧ O78 ρ w w0 26 v26 ([x39])] ?_ hw ⟨o1, o2, o3, o4, o18, o20⟩ hf ?_ ?_
  · intro ρ w ρ' w' hE hG
    obtain ⟨o1, o2, o3, o4, o18, o20⟩ := hG
    exact ⟨o1.ext hE, o2.ext hE, o3.ext hE, o4.ext hE, o18.ext hE, o20.ext hE⟩
  · exact LastsL.cons (fun _ _ _ _ _ _ h => h) <| LastsL.cons (fun _ _ _ _ _ _ h => h) <| LastsL.cons (fun _ _ _ _ _ _ h => h) <| LastsL.cons (fun _ _ _ _ _ _ h => h) <| LastsL.cons (fun _ _ _ _ _ _ h => h) <| LastsL.cons (fun _ _ _ _ _ _ h => h) <| LastsL.cons (fun _ _ _ _ _ _ h => h) <| LastsL.cons (fun _ _ _ _ _ _ h => h) <| LastsL.cons (fun _ _ _ _ _ _ h => h) <| LastsL.cons (fun _ _ _ _ _ _ h => h) <| LastsL.cons (fun _ _ _ _ _ _ h => h) <| LastsL.cons (fun _ _ _ _ _ hE h => by obtain ⟨v26, h, o26⟩ := h; exact ⟨_, h, o26.ext hE⟩) <| LastsL.nil
  · refine StepsB.cons ?_ <| StepsB.cons ?_ <| StepsB.cons ?_ <| StepsB.cons ?_ <| StepsB.cons ?_ <| StepsB.cons ?_ <| StepsB.cons ?_ <| StepsB.cons ?_ <| StepsB.cons ?_ <| StepsB.cons ?_ <| StepsB.cons ?_ <| StepsB.cons ?_ <| StepsB.nil
    · intro ρ w a hw hG hf hd K hK
      obtain ⟨o1, o2, o3, o4, o18, o20⟩ := hG
      exact dv_ hK hw (wn rfl) (r_move hf rfl) rfl
    · intro ρ w a hw hG hf hd K hK
      obtain ⟨o1, o2, o3, o4, o18, o20⟩ := hG
      exact dv_ hK hw (wn rfl) (r_load_agg ty78 hf rfl o20.cl (cProd.len _)) rfl
    · intro ρ w a hw hG hf hd K hK
      obtain ⟨o1, o2, o3, o4, o18, o20⟩ := hG
      exact dv_ hK hw (wn rfl) (r_move hf rfl) rfl
    · intro ρ w a hw hG hf hd K hK
      obtain ⟨o1, o2, o3, o4, o18, o20⟩ := hG
      exact dv_ hK hw (wn rfl) (r_fa fa28_0 hf rfl) rfl
    · intro ρ w a hw hG hf hd K hK
      obtain ⟨o1, o2, o3, o4, o18, o20⟩ := hG
      obtain ⟨_, hf, rfl⟩ := got (hd 3 (by kernel_rfl)) hf
      exact dv_ hK hw (wn rfl) (r_load_cell ty2 hf rfl (o1.cl.at_ 0 _ rfl)) rfl
    · intro ρ w a hw hG hf hd K hK
      obtain ⟨o1, o2, o3, o4, o18, o20⟩ := hG
      exact dv_ hK hw (wn rfl) (r_load_agg ty78 hf rfl o20.cl (cProd.len _)) rfl
    · intro ρ w a hw hG hf hd K hK
      obtain ⟨o1, o2, o3, o4, o18, o20⟩ := hG
      exact dv_ hK hw (wn rfl) (r_move hf rfl) rfl
    · intro ρ w a hw hG hf hd K hK
      obtain ⟨o1, o2, o3, o4, o18, o20⟩ := hG
      obtain ⟨_, hf, rfl⟩ := got (hd 5 (by kernel_rfl)) hf
      obtain ⟨_, hf, rfl⟩ := got (hd 6 (by kernel_rfl)) hf
      refine dc_ hK hw (wn rfl) (r_fn en84 hf rfl) (spec_l03Factor_ok  hx36) fun v w' hΦ => ?_
      obtain ⟨hb, hΦ⟩ := hΦ
      obtain rfl := hΦ
      have hE := Ext.new (ρ := ρ) 23 hb
      exact ⟨_, hw.new 23 hb, hE, rfl⟩
    · intro ρ w a hw hG hf hd K hK
      obtain ⟨o1, o2, o3, o4, o18, o20⟩ := hG
      exact dv_ hK hw (wn rfl) (r_load_agg ty39 hf rfl o2.cl (cForm.len _)) rfl
    · intro ρ w a hw hG hf hd K hK
      obtain ⟨o1, o2, o3, o4, o18, o20⟩ := hG
      obtain ⟨_, hf, rfl⟩ := got (hd 4 (by kernel_rfl)) hf
      obtain ⟨_, hf, rfl⟩ := got (hd 7 (by kernel_rfl)) hf
      obtain ⟨_, hf, rfl⟩ := got (hd 8 (by kernel_rfl)) hf
      refine dc_ hK hw (wn rfl) (r_fn en72 hf rfl) (spec_l01Add_ok  hx38) fun v w' hΦ => ?_
      obtain ⟨hb, hΦ⟩ := hΦ
      obtain rfl := hΦ
      have hE := Ext.new (ρ := ρ) 24 hb
      exact ⟨_, hw.new 24 hb, hE, rfl⟩
    · intro ρ w a hw hG hf hd K hK
      obtain ⟨o1, o2, o3, o4, o18, o20⟩ := hG
      obtain ⟨_, hf, rfl⟩ := got (hd 1 (by kernel_rfl)) hf
      obtain ⟨_, hf, rfl⟩ := got (hd 2 (by kernel_rfl)) hf
      obtain ⟨_, hf, rfl⟩ := got (hd 9 (by kernel_rfl)) hf
      refine dc_ hK hw (wn rfl) (r_fn en71 hf rfl) (spec_l03With_ok  hx40) fun v w' hΦ => ?_
      obtain ⟨hb, hΦ⟩ := hΦ
      obtain rfl := hΦ
      have hE := Ext.new (ρ := ρ) 25 hb
      exact ⟨_, hw.new 25 hb, hE, rfl⟩
    · intro ρ w a hw hG hf hd K hK
      obtain ⟨o1, o2, o3, o4, o18, o20⟩ := hG
      obtain ⟨_, hf, rfl⟩ := got (hd 10 (by kernel_rfl)) hf
      refine dx_ hK hw (wn rfl) (r_lit (d := cProd) (xs := ([x39] : List Prod)) (vs := [.agg (cProd.enc x39).toArray]) 26 Try.underlying26 el78 (Nat.le_of_ble_eq_true rfl) (Nat.le_of_ble_eq_true rfl) hw hf rfl rfl rfl) fun v26 w' hΦ => ?_
      obtain ⟨ρ, hw, hE, o26⟩ := hΦ
      exact ⟨_, hw, hE, ex_ <| an_ rfl <| o26⟩
  intro ρ w a hw hG hf hd
  obtain ⟨o1, o2, o3, o4, o18, o20⟩ := hG
  obtain ⟨_, hf, rfl⟩ := got (hd 0 (by decide)) hf
  obtain ⟨_, hf, ⟨v26, rfl, o26⟩⟩ := got (hd 11 (by decide)) hf
  obtain ⟨hc41, hF⟩ := of_guard hF
  refine sx_ hf (r_append Try.underlying26 el78 hw (by decide) o18 o26.ro hc41 hf rfl rfl) fun a va42 w hf hΦ => ?_
  obtain ⟨ρ, hw, hA, o18⟩ := hΦ
  replace o1 := o1.adv hA (by decide)
  replace o2 := o2.adv hA (by decide)
  replace o3 := o3.adv hA (by decide)
  replace o4 := o4.adv hA (by decide)
  replace o20 := o20.adv hA (by decide)
  replace o26 := o26.adv hA (by decide)
  refine s_ hf (r_assign hf rfl) fun a hf => ?_
  refine c_nt <| c_seq <| c_region ?_
  refine s_ hf (r_load_agg ty28 hf rfl o1.cl rfl) fun a hf => ?_
  refine s_ hf (r_move hf rfl) fun a hf => ?_
  obtain ⟨x43, hx44, hF⟩ := of_bind hF
  refine st_fn 27 hw hf rfl rfl (by decide) (r_fn en73 hf rfl) (spec_l03Told_ok (a0 := a0) (h0.now hw) o18.ro hx44) fun a v w ρ hf hw hE hN hΦ => ?_
  obtain ⟨u45, rfl, hr46⟩ := hΦ
  replace o1 := o1.ext hE
  replace o2 := o2.ext hE
  replace o3 := o3.ext hE
  replace o4 := o4.ext hE
  replace o18 := o18.ext hE
  replace o20 := o20.ext hE
  replace o26 := o26.ext hE
  have o27 := hN hr46
  refine sk_ hf (r_store_w (cs' := [vI x43.p, vI x43.n, vI x43.m, vI x43.k, u45]) hw o3 (by decide) ty28 rfl rfl (one_sch o27.ro.one) hf rfl rfl rfl) fun a w hf hΦ => ?_
  obtain ⟨hw, hA, o3⟩ := hΦ
  replace o1 := o1.adv hA (by decide)
  replace o2 := o2.adv hA (by decide)
  replace o4 := o4.adv hA (by decide)
  replace o18 := o18.adv hA (by decide)
  replace o20 := o20.adv hA (by decide)
  replace o26 := o26.adv hA (by decide)
  replace o27 := o27.adv hA (by decide)
  refine s_ hf (r_assign hf rfl) fun a hf => ?_
  refine c_nt <| c_retc ?_
  obtain rfl := Option.some.inj hF
  refine c_ret hf (res_ct Try.results24 ty28 hf rfl o3.cl rfl rfl) ?_
  exact ⟨_, rfl, hw.below, ⟨_, rfl, o27.out⟩⟩
/-! f26 -/
noncomputable def impl_SplitProduct (a0 : Sch) (a1 : Int) (a2 : Int) (a3 : Form) : Option (Sch × Int) :=
  (impl_IsScheme a0).bind fun x1 => if (!x1) = true then (some (((⟨0, 0, 0, 0, ([] : List Prod)⟩ : Sch), 1))) else (((impl_isIndex a0 ([a1])).bind fun x6 => if (!x6) = true then (some true) else (if (decide (a2 < 0)) = true then (some true) else (if (decide (2 < a2)) = true then (some true) else ((impl_placesOf a0).bind fun x11 => if 0 ≤ a2 ∧ a2 < 3 then ((impl_isForm a0.p (vg 0 x11 a2) a3).bind fun x14 => some (!x14)) else none)))).bind fun (s5 : Bool) => if s5 = true then (some (((⟨0, 0, 0, 0, ([] : List Prod)⟩ : Sch), 2))) else (if 0 ≤ a1 ∧ a1 < (a0.ps.length : Int) then ((impl_factors (gl zProd a0.ps a1)).bind fun x19 => (if (decide (a3 = zForm)) = true then (some true) else (if 0 ≤ a2 ∧ a2 < 3 then (some (decide (a3 = (vg zForm x19 a2)))) else none)).bind fun (s22 : Bool) => if s22 = true then (some (((⟨0, 0, 0, 0, ([] : List Prod)⟩ : Sch), 5))) else (if (decide ((a0.ps.length : Int) = 30)) = true then (some (((⟨0, 0, 0, 0, ([] : List Prod)⟩ : Sch), 3))) else (if 0 ≤ a2 ∧ a2 < 3 then ((impl_sum a0.p (vg zForm x19 a2) a3 (w64 (a0.p - 1))).bind fun x28 => (slices_Clone_76 a0.ps).bind fun x30 => (impl_productOf (vs x19 a2 a3)).bind fun x34 => if 0 ≤ a1 ∧ a1 < (x30.length : Int) then ((impl_productOf (vs x19 a2 x28)).bind fun x38 => if ((x30.set a1.toNat x34).length + ([x38]).length) * 27 ≤ 140737488355328 then ((impl_with a0 ((x30.set a1.toNat x34) ++ [x38])).bind fun x42 => some ((x42, 0))) else none) else none) else none))) else none))
theorem impl_SplitProduct_ok {w0 : World} {a0 : Sch} {a1 : Int} {a2 : Int} {a3 : Form} {va0 : Value} (h0 : Ro (kf cProd) w0 va0 a0.ps) {r : Sch × Int} (hF : impl_SplitProduct a0 a1 a2 a3 = some r) :
    Calls Try.prog 26 [.agg ([vI a0.p, vI a0.n, vI a0.m, vI a0.k, va0]).toArray, vI a1, vI a2, .agg (cForm.enc a3).toArray].toArray w0 fun e w => ∃ v, e = .returned v ∧ Below w0.heap.size w0 w ∧ ∃ u0, .tuple #[.agg [.int .i64 r.1.p, .int .i64 r.1.n, .int .i64 r.1.m, .int .i64 r.1.k, u0].toArray, .int .i64 r.2] = v ∧ Fresh (kf cProd) 78 w0 w u0 r.1.ps := by
  refine calls_of (k := 99) Try.func26 rfl rfl (Nat.le_of_ble_eq_true rfl) fun a hf => ?_
  replace hf : Fr 99 a [(0, .agg ([vI a0.p, vI a0.n, vI a0.m, vI a0.k, va0]).toArray), (1, vI a1), (2, vI a2), (3, .agg (cForm.enc a3).toArray)] := hf
  refine c_start fun w ρ hw => ?_
  unfold impl_SplitProduct at hF
  refine c_seq <| c_region ?_
  refine sx_ hf (r_box (cs := [vI a0.p, vI a0.n, vI a0.m, vI a0.k, va0]) 1 hw hf rfl rfl) fun a v w hf hΦ => ?_
  obtain ⟨g1, ρ, rfl, hw, hE, o1⟩ := hΦ
  refine sx_ hf (r_box (cs := cForm.enc a3) 2 hw hf rfl rfl) fun a v w hf hΦ => ?_
  obtain ⟨g2, ρ, rfl, hw, hE, o2⟩ := hΦ
  replace o1 := o1.ext hE
  have o4 : Ow (kf cProd) 78 ρ w w0.heap.size 4 (.slice none 0 0) [] := Ow.nil _ _ _ _ _ _
  refine sx_ hf (r_alloc (cs := [vI 0, vI 0, vI 0, vI 0, (.slice none 0 0)]) 3 ze28 rfl hw) fun a v w hf hΦ => ?_
  obtain ⟨g3, ρ, rfl, hw, hE, o3⟩ := hΦ
  replace o1 := o1.ext hE
  replace o2 := o2.ext hE
  replace o4 := o4.ext hE
  refine s_ hf (r_assign hf rfl) fun a hf => ?_
  refine c_nt <| c_seq <| c_block <| c_seq <| c_region ?_
  refine s_ hf (r_load_agg ty28 hf rfl o1.cl rfl) fun a hf => ?_
  obtain ⟨x1, hx2, hF⟩ := of_bind hF
  refine st_fn 5 hw hf rfl rfl (by decide) (r_fn en74 hf rfl) (impl_IsScheme_ok (a0 := a0) (h0.now hw) hx2) fun a v w ρ hf hw hE hN hΦ => ?_
  obtain rfl := hΦ
  replace o1 := o1.ext hE
  replace o2 := o2.ext hE
  replace o4 := o4.ext hE
  replace o3 := o3.ext hE
  refine s_ hf (r_not hf rfl) fun a hf => ?_
  refine s_ hf (r_assign hf rfl) fun a hf => ?_
  refine c_nt ?_
  rcases of_ite hF with ⟨hb3, hF⟩ | ⟨hb3, hF⟩
  · refine c_ift hf rfl hb3 <| c_seq <| c_region ?_
    have o6 : Ow (kf cProd) 78 ρ w w0.heap.size 6 (.slice none 0 0) [] := Ow.nil _ _ _ _ _ _
    refine s_ hf (r_build_struct (pl := [(0, 1), (1, 1), (2, 1), (3, 1), (4, 1)]) (vs := []) (res := ([vI 0, vI 0, vI 0, vI 0, (.slice none 0 0)]).toArray) Try.underlying28 (by kernel_rfl) ze28 hf rfl rfl rfl) fun a hf => ?_
    refine sk_ hf (r_store_w (cs' := [vI 0, vI 0, vI 0, vI 0, (.slice none 0 0)]) hw o3 (by decide) ty28 rfl rfl (one_sch o6.ro.one) hf rfl rfl rfl) fun a w hf hΦ => ?_
    obtain ⟨hw, hA, o3⟩ := hΦ
    replace o1 := o1.adv hA (by decide)
    replace o2 := o2.adv hA (by decide)
    replace o4 := o4.adv hA (by decide)
    replace o6 := o6.adv hA (by decide)
    refine s_ hf (r_assign hf rfl) fun a hf => ?_
    refine c_nt <| c_retc ?_
    obtain rfl := Option.some.inj hF
    refine r_block <| r_then <| c_ret hf (res_ct Try.results26 ty28 hf rfl o3.cl rfl rfl) ?_
    exact ⟨_, rfl, hw.below, ⟨_, rfl, o6.out⟩⟩
  refine c_iff hf rfl hb3 <| c_seq ?_
  obtain ⟨s5, hT4, hG4⟩ := of_bind hF
  clear hF
  refine c_meet (fun (s5 : Bool) a w => ∃ ρ, Wd w0 ρ w ∧ Fr 99 a [(1, vI a1), (2, vI a2), (4, .pointer (some ((⟨g1, 0, none⟩ : Addr).add 0))), (7, .pointer (some ((⟨g2, 0, none⟩ : Addr).add 0))), (8, .pointer (some ((⟨g3, 0, none⟩ : Addr).add 0))), (18, .bool s5)] ∧ Va ρ w 1 g1 28 ([vI a0.p, vI a0.n, vI a0.m, vI a0.k, va0]) ∧ Va ρ w 2 g2 39 (cForm.enc a3) ∧ Va ρ w 3 g3 28 ([vI 0, vI 0, vI 0, vI 0, (.slice none 0 0)]) ∧ O78 ρ w w0 4 (.slice none 0 0) ([] : List Prod)) s5 ?_ ?_
  · have hF := hT4
    obtain ⟨x6, hx7, hF⟩ := of_bind hF
    rcases of_ite hF with ⟨hb8, hF⟩ | ⟨hb8, hF⟩
    · replace hf : Fr 99 a [(1, vI a1), (2, vI a2), (4, .pointer (some ((⟨g1, 0, none⟩ : Addr).add 0))), (7, .pointer (some ((⟨g2, 0, none⟩ : Addr).add 0))), (8, .pointer (some ((⟨g3, 0, none⟩ : Addr).add 0)))] := hf.sub ⟨rfl, rfl, rfl, rfl, rfl, trivial⟩
      refine c_drawL (h := 21) mixed (by kernel_rfl) (by kernel_rfl) (fun ρ w => Va ρ w 1 g1 28 ([vI a0.p, vI a0.n, vI a0.m, vI a0.k, va0]) ∧ Va ρ w 2 g2 39 (cForm.enc a3) ∧ Va ρ w 3 g3 28 ([vI 0, vI 0, vI 0, vI 0, (.slice none 0 0)]) ∧ O78 ρ w w0 4 (.slice none 0 0) ([] : List Prod)) ?_ [fun ρ w v => .agg ([vI a0.p, vI a0.n, vI a0.m, vI a0.k, va0]).toArray = v, fun ρ w v => vI a1 = v, fun ρ w v => ∃ v7, v7 = v ∧ O2 ρ w w0 7 v7 ([a1]), fun ρ w v => .bool x6 = v, fun ρ w v => .bool (!x6) = v, fun ρ w v => .bool (!x6) = v, fun ρ w v => undef = v, fun ρ w v => undef = v, fun ρ w v => .bool true = v, fun ρ w v => .bool true = v, fun ρ w v => undef = v, fun ρ w v => undef = v, fun ρ w v => .bool true = v, fun ρ w v => .bool true = v, fun ρ w v => undef = v, fun ρ w v => undef = v, fun ρ w v => undef = v, fun ρ w v => undef = v, fun ρ w v => undef = v, fun ρ w v => undef = v, fun ρ w v => undef = v] ?_ hw ⟨o1, o2, o3, o4⟩ hf ?_ ?_
      · intro ρ w ρ' w' hE hG
        obtain ⟨o1, o2, o3, o4⟩ := hG
        exact ⟨o1.ext hE, o2.ext hE, o3.ext hE, o4.ext hE⟩
      · exact LastsL.cons (fun _ _ _ _ _ _ h => h) <| LastsL.cons (fun _ _ _ _ _ _ h => h) <| LastsL.cons (fun _ _ _ _ _ hE h => by obtain ⟨v7, h, o7⟩ := h; exact ⟨_, h, o7.ext hE⟩) <| LastsL.cons (fun _ _ _ _ _ _ h => h) <| LastsL.cons (fun _ _ _ _ _ _ h => h) <| LastsL.cons (fun _ _ _ _ _ _ h => h) <| LastsL.cons (fun _ _ _ _ _ _ h => h) <| LastsL.cons (fun _ _ _ _ _ _ h => h) <| LastsL.cons (fun _ _ _ _ _ _ h => h) <| LastsL.cons (fun _ _ _ _ _ _ h => h) <| LastsL.cons (fun _ _ _ _ _ _ h => h) <| LastsL.cons (fun _ _ _ _ _ _ h => h) <| LastsL.cons (fun _ _ _ _ _ _ h => h) <| LastsL.cons (fun _ _ _ _ _ _ h => h) <| LastsL.cons (fun _ _ _ _ _ _ h => h) <| LastsL.cons (fun _ _ _ _ _ _ h => h) <| LastsL.cons (fun _ _ _ _ _ _ h => h) <| LastsL.cons (fun _ _ _ _ _ _ h => h) <| LastsL.cons (fun _ _ _ _ _ _ h => h) <| LastsL.cons (fun _ _ _ _ _ _ h => h) <| LastsL.cons (fun _ _ _ _ _ _ h => h) <| LastsL.nil
      · refine StepsB.cons ?_ <| StepsB.cons ?_ <| StepsB.cons ?_ <| StepsB.cons ?_ <| StepsB.cons ?_ <| StepsB.cons ?_ <| StepsB.cons ?_ <| StepsB.cons ?_ <| StepsB.cons ?_ <| StepsB.cons ?_ <| StepsB.cons ?_ <| StepsB.cons ?_ <| StepsB.cons ?_ <| StepsB.cons ?_ <| StepsB.cons ?_ <| StepsB.cons ?_ <| StepsB.cons ?_ <| StepsB.cons ?_ <| StepsB.cons ?_ <| StepsB.cons ?_ <| StepsB.cons ?_ <| StepsB.nil
        · intro ρ w a hw hG hf hd K hK
          obtain ⟨o1, o2, o3, o4⟩ := hG
          exact dv_ hK hw (wn rfl) (r_load_agg ty28 hf rfl o1.cl rfl) rfl
        · intro ρ w a hw hG hf hd K hK
          obtain ⟨o1, o2, o3, o4⟩ := hG
          exact dv_ hK hw (wn rfl) (r_move hf rfl) rfl
        · intro ρ w a hw hG hf hd K hK
          obtain ⟨o1, o2, o3, o4⟩ := hG
          obtain ⟨_, hf, rfl⟩ := got (hd 1 (by kernel_rfl)) hf
          refine dx_ hK hw (wn rfl) (r_lit (d := fI64) (xs := ([a1] : List Int)) (vs := [vI a1]) 7 Try.underlying61 el2 (Nat.le_of_ble_eq_true rfl) (Nat.le_of_ble_eq_true rfl) hw hf rfl rfl rfl) fun v7 w' hΦ => ?_
          obtain ⟨ρ, hw, hE, o7⟩ := hΦ
          exact ⟨_, hw, hE, ex_ <| an_ rfl <| o7⟩
        · intro ρ w a hw hG hf hd K hK
          obtain ⟨o1, o2, o3, o4⟩ := hG
          obtain ⟨_, hf, rfl⟩ := got (hd 0 (by kernel_rfl)) hf
          obtain ⟨_, hf, ⟨v7, rfl, o7⟩⟩ := got (hd 2 (by kernel_rfl)) hf
          refine dc_ hK hw (wn rfl) (r_fn en75 hf rfl) (impl_isIndex_ok (a0 := a0) (h0.now hw) o7.ro hx7) fun v w' hΦ => ?_
          obtain ⟨hb, hΦ⟩ := hΦ
          obtain rfl := hΦ
          have hE := Ext.new (ρ := ρ) 8 hb
          exact ⟨_, hw.new 8 hb, hE, rfl⟩
        · intro ρ w a hw hG hf hd K hK
          obtain ⟨o1, o2, o3, o4⟩ := hG
          obtain ⟨_, hf, rfl⟩ := got (hd 3 (by kernel_rfl)) hf
          exact dv_ hK hw (wn rfl) (r_not hf rfl) rfl
        · intro ρ w a hw hG hf hd K hK
          obtain ⟨o1, o2, o3, o4⟩ := hG
          obtain ⟨_, hf, rfl⟩ := got (hd 4 (by kernel_rfl)) hf
          exact dv_ hK hw (wn rfl) (r_move hf rfl) rfl
        · intro ρ w a hw hG hf hd K hK
          obtain ⟨o1, o2, o3, o4⟩ := hG
          obtain ⟨_, hf, rfl⟩ := got (hd 5 (by kernel_rfl)) hf
          exact do_ hK (b := true) hw hf rfl rfl rfl hb8 rfl rfl
        · intro ρ w a hw hG hf hd K hK
          obtain ⟨o1, o2, o3, o4⟩ := hG
          obtain ⟨_, hf, rfl⟩ := got (hd 5 (by kernel_rfl)) hf
          obtain ⟨_, hf, rfl⟩ := got (hd 6 (by kernel_rfl)) hf
          exact do_ hK (b := true) hw hf rfl rfl rfl hb8 rfl rfl
        · intro ρ w a hw hG hf hd K hK
          obtain ⟨o1, o2, o3, o4⟩ := hG
          obtain ⟨_, hf, rfl⟩ := got (hd 5 (by kernel_rfl)) hf
          obtain ⟨_, hf, rfl⟩ := got (hd 7 (by kernel_rfl)) hf
          exact dv_ hK hw (wn rfl) (r_pick (b := true) hf rfl hb8 rfl) rfl
        · intro ρ w a hw hG hf hd K hK
          obtain ⟨o1, o2, o3, o4⟩ := hG
          obtain ⟨_, hf, rfl⟩ := got (hd 8 (by kernel_rfl)) hf
          exact dv_ hK hw (wn rfl) (r_move hf rfl) rfl
        · intro ρ w a hw hG hf hd K hK
          obtain ⟨o1, o2, o3, o4⟩ := hG
          obtain ⟨_, hf, rfl⟩ := got (hd 9 (by kernel_rfl)) hf
          exact do_ hK (b := true) hw hf rfl rfl rfl rfl rfl rfl
        · intro ρ w a hw hG hf hd K hK
          obtain ⟨o1, o2, o3, o4⟩ := hG
          obtain ⟨_, hf, rfl⟩ := got (hd 9 (by kernel_rfl)) hf
          obtain ⟨_, hf, rfl⟩ := got (hd 10 (by kernel_rfl)) hf
          exact do_ hK (b := true) hw hf rfl rfl rfl rfl rfl rfl
        · intro ρ w a hw hG hf hd K hK
          obtain ⟨o1, o2, o3, o4⟩ := hG
          obtain ⟨_, hf, rfl⟩ := got (hd 9 (by kernel_rfl)) hf
          obtain ⟨_, hf, rfl⟩ := got (hd 11 (by kernel_rfl)) hf
          exact dv_ hK hw (wn rfl) (r_pick (b := true) hf rfl rfl rfl) rfl
        · intro ρ w a hw hG hf hd K hK
          obtain ⟨o1, o2, o3, o4⟩ := hG
          obtain ⟨_, hf, rfl⟩ := got (hd 12 (by kernel_rfl)) hf
          exact dv_ hK hw (wn rfl) (r_move hf rfl) rfl
        · intro ρ w a hw hG hf hd K hK
          obtain ⟨o1, o2, o3, o4⟩ := hG
          obtain ⟨_, hf, rfl⟩ := got (hd 13 (by kernel_rfl)) hf
          exact do_ hK (b := true) hw hf rfl rfl rfl rfl rfl rfl
        · intro ρ w a hw hG hf hd K hK
          obtain ⟨o1, o2, o3, o4⟩ := hG
          obtain ⟨_, hf, rfl⟩ := got (hd 13 (by kernel_rfl)) hf
          obtain ⟨_, hf, rfl⟩ := got (hd 14 (by kernel_rfl)) hf
          exact do_ hK (b := true) hw hf rfl rfl rfl rfl rfl rfl
        · intro ρ w a hw hG hf hd K hK
          obtain ⟨o1, o2, o3, o4⟩ := hG
          obtain ⟨_, hf, rfl⟩ := got (hd 13 (by kernel_rfl)) hf
          exact do_ hK (b := true) hw hf rfl rfl rfl rfl rfl rfl
        · intro ρ w a hw hG hf hd K hK
          obtain ⟨o1, o2, o3, o4⟩ := hG
          obtain ⟨_, hf, rfl⟩ := got (hd 13 (by kernel_rfl)) hf
          obtain ⟨_, hf, rfl⟩ := got (hd 16 (by kernel_rfl)) hf
          exact do_ hK (b := true) hw hf rfl rfl rfl rfl rfl rfl
        · intro ρ w a hw hG hf hd K hK
          obtain ⟨o1, o2, o3, o4⟩ := hG
          obtain ⟨_, hf, rfl⟩ := got (hd 13 (by kernel_rfl)) hf
          exact do_ hK (b := true) hw hf rfl rfl rfl rfl rfl rfl
        · intro ρ w a hw hG hf hd K hK
          obtain ⟨o1, o2, o3, o4⟩ := hG
          obtain ⟨_, hf, rfl⟩ := got (hd 13 (by kernel_rfl)) hf
          obtain ⟨_, hf, rfl⟩ := got (hd 17 (by kernel_rfl)) hf
          obtain ⟨_, hf, rfl⟩ := got (hd 18 (by kernel_rfl)) hf
          exact do_ hK (b := true) hw hf rfl rfl rfl rfl rfl rfl
        · intro ρ w a hw hG hf hd K hK
          obtain ⟨o1, o2, o3, o4⟩ := hG
          obtain ⟨_, hf, rfl⟩ := got (hd 13 (by kernel_rfl)) hf
          exact do_ hK (b := true) hw hf rfl rfl rfl rfl rfl rfl
      intro ρ w a hw hG hf hd
      obtain ⟨o1, o2, o3, o4⟩ := hG
      obtain ⟨_, hf, rfl⟩ := got (hd 13 (by decide)) hf
      obtain ⟨_, hf, rfl⟩ := got (hd 15 (by decide)) hf
      obtain ⟨_, hf, rfl⟩ := got (hd 19 (by decide)) hf
      obtain ⟨_, hf, rfl⟩ := got (hd 20 (by decide)) hf
      refine st_no (b := true) hf rfl rfl rfl rfl rfl (by decide) fun a hf => ?_
      refine st_no (b := true) hf rfl rfl rfl rfl rfl (by decide) fun a hf => ?_
      refine s_ hf (r_pick (b := true) hf rfl rfl rfl) fun a hf => ?_
      refine s_ hf (r_assign hf rfl) fun a hf => ?_
      refine c_nil ⟨rfl, ?_⟩
      obtain rfl := Option.some.inj hF
      exact ⟨_, hw, hf.sub ⟨rfl, rfl, rfl, rfl, rfl, rfl, trivial⟩, o1, o2, o3, o4⟩
    rcases of_ite hF with ⟨hb9, hF⟩ | ⟨hb9, hF⟩
    · replace hf : Fr 99 a [(1, vI a1), (2, vI a2), (4, .pointer (some ((⟨g1, 0, none⟩ : Addr).add 0))), (7, .pointer (some ((⟨g2, 0, none⟩ : Addr).add 0))), (8, .pointer (some ((⟨g3, 0, none⟩ : Addr).add 0)))] := hf.sub ⟨rfl, rfl, rfl, rfl, rfl, trivial⟩
      refine c_drawL (h := 21) mixed (by kernel_rfl) (by kernel_rfl) (fun ρ w => Va ρ w 1 g1 28 ([vI a0.p, vI a0.n, vI a0.m, vI a0.k, va0]) ∧ Va ρ w 2 g2 39 (cForm.enc a3) ∧ Va ρ w 3 g3 28 ([vI 0, vI 0, vI 0, vI 0, (.slice none 0 0)]) ∧ O78 ρ w w0 4 (.slice none 0 0) ([] : List Prod)) ?_ [fun ρ w v => .agg ([vI a0.p, vI a0.n, vI a0.m, vI a0.k, va0]).toArray = v, fun ρ w v => vI a1 = v, fun ρ w v => ∃ v7, v7 = v ∧ O2 ρ w w0 7 v7 ([a1]), fun ρ w v => .bool x6 = v, fun ρ w v => .bool (!x6) = v, fun ρ w v => .bool (!x6) = v, fun ρ w v => vI a2 = v, fun ρ w v => .bool (decide (a2 < 0)) = v, fun ρ w v => .bool (decide (a2 < 0)) = v, fun ρ w v => .bool (decide (a2 < 0)) = v, fun ρ w v => undef = v, fun ρ w v => undef = v, fun ρ w v => .bool true = v, fun ρ w v => .bool true = v, fun ρ w v => undef = v, fun ρ w v => undef = v, fun ρ w v => undef = v, fun ρ w v => undef = v, fun ρ w v => undef = v, fun ρ w v => undef = v, fun ρ w v => undef = v] ?_ hw ⟨o1, o2, o3, o4⟩ hf ?_ ?_
      · intro ρ w ρ' w' hE hG
        obtain ⟨o1, o2, o3, o4⟩ := hG
        exact ⟨o1.ext hE, o2.ext hE, o3.ext hE, o4.ext hE⟩
      · exact LastsL.cons (fun _ _ _ _ _ _ h => h) <| LastsL.cons (fun _ _ _ _ _ _ h => h) <| LastsL.cons (fun _ _ _ _ _ hE h => by obtain ⟨v7, h, o7⟩ := h; exact ⟨_, h, o7.ext hE⟩) <| LastsL.cons (fun _ _ _ _ _ _ h => h) <| LastsL.cons (fun _ _ _ _ _ _ h => h) <| LastsL.cons (fun _ _ _ _ _ _ h => h) <| LastsL.cons (fun _ _ _ _ _ _ h => h) <| LastsL.cons (fun _ _ _ _ _ _ h => h) <| LastsL.cons (fun _ _ _ _ _ _ h => h) <| LastsL.cons (fun _ _ _ _ _ _ h => h) <| LastsL.cons (fun _ _ _ _ _ _ h => h) <| LastsL.cons (fun _ _ _ _ _ _ h => h) <| LastsL.cons (fun _ _ _ _ _ _ h => h) <| LastsL.cons (fun _ _ _ _ _ _ h => h) <| LastsL.cons (fun _ _ _ _ _ _ h => h) <| LastsL.cons (fun _ _ _ _ _ _ h => h) <| LastsL.cons (fun _ _ _ _ _ _ h => h) <| LastsL.cons (fun _ _ _ _ _ _ h => h) <| LastsL.cons (fun _ _ _ _ _ _ h => h) <| LastsL.cons (fun _ _ _ _ _ _ h => h) <| LastsL.cons (fun _ _ _ _ _ _ h => h) <| LastsL.nil
      · refine StepsB.cons ?_ <| StepsB.cons ?_ <| StepsB.cons ?_ <| StepsB.cons ?_ <| StepsB.cons ?_ <| StepsB.cons ?_ <| StepsB.cons ?_ <| StepsB.cons ?_ <| StepsB.cons ?_ <| StepsB.cons ?_ <| StepsB.cons ?_ <| StepsB.cons ?_ <| StepsB.cons ?_ <| StepsB.cons ?_ <| StepsB.cons ?_ <| StepsB.cons ?_ <| StepsB.cons ?_ <| StepsB.cons ?_ <| StepsB.cons ?_ <| StepsB.cons ?_ <| StepsB.cons ?_ <| StepsB.nil
        · intro ρ w a hw hG hf hd K hK
          obtain ⟨o1, o2, o3, o4⟩ := hG
          exact dv_ hK hw (wn rfl) (r_load_agg ty28 hf rfl o1.cl rfl) rfl
        · intro ρ w a hw hG hf hd K hK
          obtain ⟨o1, o2, o3, o4⟩ := hG
          exact dv_ hK hw (wn rfl) (r_move hf rfl) rfl
        · intro ρ w a hw hG hf hd K hK
          obtain ⟨o1, o2, o3, o4⟩ := hG
          obtain ⟨_, hf, rfl⟩ := got (hd 1 (by kernel_rfl)) hf
          refine dx_ hK hw (wn rfl) (r_lit (d := fI64) (xs := ([a1] : List Int)) (vs := [vI a1]) 7 Try.underlying61 el2 (Nat.le_of_ble_eq_true rfl) (Nat.le_of_ble_eq_true rfl) hw hf rfl rfl rfl) fun v7 w' hΦ => ?_
          obtain ⟨ρ, hw, hE, o7⟩ := hΦ
          exact ⟨_, hw, hE, ex_ <| an_ rfl <| o7⟩
        · intro ρ w a hw hG hf hd K hK
          obtain ⟨o1, o2, o3, o4⟩ := hG
          obtain ⟨_, hf, rfl⟩ := got (hd 0 (by kernel_rfl)) hf
          obtain ⟨_, hf, ⟨v7, rfl, o7⟩⟩ := got (hd 2 (by kernel_rfl)) hf
          refine dc_ hK hw (wn rfl) (r_fn en75 hf rfl) (impl_isIndex_ok (a0 := a0) (h0.now hw) o7.ro hx7) fun v w' hΦ => ?_
          obtain ⟨hb, hΦ⟩ := hΦ
          obtain rfl := hΦ
          have hE := Ext.new (ρ := ρ) 8 hb
          exact ⟨_, hw.new 8 hb, hE, rfl⟩
        · intro ρ w a hw hG hf hd K hK
          obtain ⟨o1, o2, o3, o4⟩ := hG
          obtain ⟨_, hf, rfl⟩ := got (hd 3 (by kernel_rfl)) hf
          exact dv_ hK hw (wn rfl) (r_not hf rfl) rfl
        · intro ρ w a hw hG hf hd K hK
          obtain ⟨o1, o2, o3, o4⟩ := hG
          obtain ⟨_, hf, rfl⟩ := got (hd 4 (by kernel_rfl)) hf
          exact dv_ hK hw (wn rfl) (r_move hf rfl) rfl
        · intro ρ w a hw hG hf hd K hK
          obtain ⟨o1, o2, o3, o4⟩ := hG
          obtain ⟨_, hf, rfl⟩ := got (hd 5 (by kernel_rfl)) hf
          exact dv_ hK hw (wg (b := false) hf rfl rfl rfl hb8) (r_move hf rfl) rfl
        · intro ρ w a hw hG hf hd K hK
          obtain ⟨o1, o2, o3, o4⟩ := hG
          obtain ⟨_, hf, rfl⟩ := got (hd 5 (by kernel_rfl)) hf
          obtain ⟨_, hf, rfl⟩ := got (hd 6 (by kernel_rfl)) hf
          exact dv_ hK hw (wg (b := false) hf rfl rfl rfl hb8) (r_lss hf rfl rfl) rfl
        · intro ρ w a hw hG hf hd K hK
          obtain ⟨o1, o2, o3, o4⟩ := hG
          obtain ⟨_, hf, rfl⟩ := got (hd 5 (by kernel_rfl)) hf
          obtain ⟨_, hf, rfl⟩ := got (hd 7 (by kernel_rfl)) hf
          exact dv_ hK hw (wn rfl) (r_pick (b := false) hf rfl hb8 rfl) rfl
        · intro ρ w a hw hG hf hd K hK
          obtain ⟨o1, o2, o3, o4⟩ := hG
          obtain ⟨_, hf, rfl⟩ := got (hd 8 (by kernel_rfl)) hf
          exact dv_ hK hw (wn rfl) (r_move hf rfl) rfl
        · intro ρ w a hw hG hf hd K hK
          obtain ⟨o1, o2, o3, o4⟩ := hG
          obtain ⟨_, hf, rfl⟩ := got (hd 9 (by kernel_rfl)) hf
          exact do_ hK (b := true) hw hf rfl rfl rfl hb9 rfl rfl
        · intro ρ w a hw hG hf hd K hK
          obtain ⟨o1, o2, o3, o4⟩ := hG
          obtain ⟨_, hf, rfl⟩ := got (hd 9 (by kernel_rfl)) hf
          obtain ⟨_, hf, rfl⟩ := got (hd 10 (by kernel_rfl)) hf
          exact do_ hK (b := true) hw hf rfl rfl rfl hb9 rfl rfl
        · intro ρ w a hw hG hf hd K hK
          obtain ⟨o1, o2, o3, o4⟩ := hG
          obtain ⟨_, hf, rfl⟩ := got (hd 9 (by kernel_rfl)) hf
          obtain ⟨_, hf, rfl⟩ := got (hd 11 (by kernel_rfl)) hf
          exact dv_ hK hw (wn rfl) (r_pick (b := true) hf rfl hb9 rfl) rfl
        · intro ρ w a hw hG hf hd K hK
          obtain ⟨o1, o2, o3, o4⟩ := hG
          obtain ⟨_, hf, rfl⟩ := got (hd 12 (by kernel_rfl)) hf
          exact dv_ hK hw (wn rfl) (r_move hf rfl) rfl
        · intro ρ w a hw hG hf hd K hK
          obtain ⟨o1, o2, o3, o4⟩ := hG
          obtain ⟨_, hf, rfl⟩ := got (hd 13 (by kernel_rfl)) hf
          exact do_ hK (b := true) hw hf rfl rfl rfl rfl rfl rfl
        · intro ρ w a hw hG hf hd K hK
          obtain ⟨o1, o2, o3, o4⟩ := hG
          obtain ⟨_, hf, rfl⟩ := got (hd 13 (by kernel_rfl)) hf
          obtain ⟨_, hf, rfl⟩ := got (hd 14 (by kernel_rfl)) hf
          exact do_ hK (b := true) hw hf rfl rfl rfl rfl rfl rfl
        · intro ρ w a hw hG hf hd K hK
          obtain ⟨o1, o2, o3, o4⟩ := hG
          obtain ⟨_, hf, rfl⟩ := got (hd 13 (by kernel_rfl)) hf
          exact do_ hK (b := true) hw hf rfl rfl rfl rfl rfl rfl
        · intro ρ w a hw hG hf hd K hK
          obtain ⟨o1, o2, o3, o4⟩ := hG
          obtain ⟨_, hf, rfl⟩ := got (hd 13 (by kernel_rfl)) hf
          obtain ⟨_, hf, rfl⟩ := got (hd 16 (by kernel_rfl)) hf
          exact do_ hK (b := true) hw hf rfl rfl rfl rfl rfl rfl
        · intro ρ w a hw hG hf hd K hK
          obtain ⟨o1, o2, o3, o4⟩ := hG
          obtain ⟨_, hf, rfl⟩ := got (hd 13 (by kernel_rfl)) hf
          exact do_ hK (b := true) hw hf rfl rfl rfl rfl rfl rfl
        · intro ρ w a hw hG hf hd K hK
          obtain ⟨o1, o2, o3, o4⟩ := hG
          obtain ⟨_, hf, rfl⟩ := got (hd 13 (by kernel_rfl)) hf
          obtain ⟨_, hf, rfl⟩ := got (hd 17 (by kernel_rfl)) hf
          obtain ⟨_, hf, rfl⟩ := got (hd 18 (by kernel_rfl)) hf
          exact do_ hK (b := true) hw hf rfl rfl rfl rfl rfl rfl
        · intro ρ w a hw hG hf hd K hK
          obtain ⟨o1, o2, o3, o4⟩ := hG
          obtain ⟨_, hf, rfl⟩ := got (hd 13 (by kernel_rfl)) hf
          exact do_ hK (b := true) hw hf rfl rfl rfl rfl rfl rfl
      intro ρ w a hw hG hf hd
      obtain ⟨o1, o2, o3, o4⟩ := hG
      obtain ⟨_, hf, rfl⟩ := got (hd 13 (by decide)) hf
      obtain ⟨_, hf, rfl⟩ := got (hd 15 (by decide)) hf
      obtain ⟨_, hf, rfl⟩ := got (hd 19 (by decide)) hf
      obtain ⟨_, hf, rfl⟩ := got (hd 20 (by decide)) hf
      refine st_no (b := true) hf rfl rfl rfl rfl rfl (by decide) fun a hf => ?_
      refine st_no (b := true) hf rfl rfl rfl rfl rfl (by decide) fun a hf => ?_
      refine s_ hf (r_pick (b := true) hf rfl rfl rfl) fun a hf => ?_
      refine s_ hf (r_assign hf rfl) fun a hf => ?_
      refine c_nil ⟨rfl, ?_⟩
      obtain rfl := Option.some.inj hF
      exact ⟨_, hw, hf.sub ⟨rfl, rfl, rfl, rfl, rfl, rfl, trivial⟩, o1, o2, o3, o4⟩
    rcases of_ite hF with ⟨hb10, hF⟩ | ⟨hb10, hF⟩
    · replace hf : Fr 99 a [(1, vI a1), (2, vI a2), (4, .pointer (some ((⟨g1, 0, none⟩ : Addr).add 0))), (7, .pointer (some ((⟨g2, 0, none⟩ : Addr).add 0))), (8, .pointer (some ((⟨g3, 0, none⟩ : Addr).add 0)))] := hf.sub ⟨rfl, rfl, rfl, rfl, rfl, trivial⟩
      refine c_drawL (h := 21) mixed (by kernel_rfl) (by kernel_rfl) (fun ρ w => Va ρ w 1 g1 28 ([vI a0.p, vI a0.n, vI a0.m, vI a0.k, va0]) ∧ Va ρ w 2 g2 39 (cForm.enc a3) ∧ Va ρ w 3 g3 28 ([vI 0, vI 0, vI 0, vI 0, (.slice none 0 0)]) ∧ O78 ρ w w0 4 (.slice none 0 0) ([] : List Prod)) ?_ [fun ρ w v => .agg ([vI a0.p, vI a0.n, vI a0.m, vI a0.k, va0]).toArray = v, fun ρ w v => vI a1 = v, fun ρ w v => ∃ v7, v7 = v ∧ O2 ρ w w0 7 v7 ([a1]), fun ρ w v => .bool x6 = v, fun ρ w v => .bool (!x6) = v, fun ρ w v => .bool (!x6) = v, fun ρ w v => vI a2 = v, fun ρ w v => .bool (decide (a2 < 0)) = v, fun ρ w v => .bool (decide (a2 < 0)) = v, fun ρ w v => .bool (decide (a2 < 0)) = v, fun ρ w v => vI a2 = v, fun ρ w v => .bool (decide (2 < a2)) = v, fun ρ w v => .bool (decide (2 < a2)) = v, fun ρ w v => .bool (decide (2 < a2)) = v, fun ρ w v => undef = v, fun ρ w v => undef = v, fun ρ w v => undef = v, fun ρ w v => undef = v, fun ρ w v => undef = v, fun ρ w v => undef = v, fun ρ w v => undef = v] ?_ hw ⟨o1, o2, o3, o4⟩ hf ?_ ?_
      · intro ρ w ρ' w' hE hG
        obtain ⟨o1, o2, o3, o4⟩ := hG
        exact ⟨o1.ext hE, o2.ext hE, o3.ext hE, o4.ext hE⟩
      · exact LastsL.cons (fun _ _ _ _ _ _ h => h) <| LastsL.cons (fun _ _ _ _ _ _ h => h) <| LastsL.cons (fun _ _ _ _ _ hE h => by obtain ⟨v7, h, o7⟩ := h; exact ⟨_, h, o7.ext hE⟩) <| LastsL.cons (fun _ _ _ _ _ _ h => h) <| LastsL.cons (fun _ _ _ _ _ _ h => h) <| LastsL.cons (fun _ _ _ _ _ _ h => h) <| LastsL.cons (fun _ _ _ _ _ _ h => h) <| LastsL.cons (fun _ _ _ _ _ _ h => h) <| LastsL.cons (fun _ _ _ _ _ _ h => h) <| LastsL.cons (fun _ _ _ _ _ _ h => h) <| LastsL.cons (fun _ _ _ _ _ _ h => h) <| LastsL.cons (fun _ _ _ _ _ _ h => h) <| LastsL.cons (fun _ _ _ _ _ _ h => h) <| LastsL.cons (fun _ _ _ _ _ _ h => h) <| LastsL.cons (fun _ _ _ _ _ _ h => h) <| LastsL.cons (fun _ _ _ _ _ _ h => h) <| LastsL.cons (fun _ _ _ _ _ _ h => h) <| LastsL.cons (fun _ _ _ _ _ _ h => h) <| LastsL.cons (fun _ _ _ _ _ _ h => h) <| LastsL.cons (fun _ _ _ _ _ _ h => h) <| LastsL.cons (fun _ _ _ _ _ _ h => h) <| LastsL.nil
      · refine StepsB.cons ?_ <| StepsB.cons ?_ <| StepsB.cons ?_ <| StepsB.cons ?_ <| StepsB.cons ?_ <| StepsB.cons ?_ <| StepsB.cons ?_ <| StepsB.cons ?_ <| StepsB.cons ?_ <| StepsB.cons ?_ <| StepsB.cons ?_ <| StepsB.cons ?_ <| StepsB.cons ?_ <| StepsB.cons ?_ <| StepsB.cons ?_ <| StepsB.cons ?_ <| StepsB.cons ?_ <| StepsB.cons ?_ <| StepsB.cons ?_ <| StepsB.cons ?_ <| StepsB.cons ?_ <| StepsB.nil
        · intro ρ w a hw hG hf hd K hK
          obtain ⟨o1, o2, o3, o4⟩ := hG
          exact dv_ hK hw (wn rfl) (r_load_agg ty28 hf rfl o1.cl rfl) rfl
        · intro ρ w a hw hG hf hd K hK
          obtain ⟨o1, o2, o3, o4⟩ := hG
          exact dv_ hK hw (wn rfl) (r_move hf rfl) rfl
        · intro ρ w a hw hG hf hd K hK
          obtain ⟨o1, o2, o3, o4⟩ := hG
          obtain ⟨_, hf, rfl⟩ := got (hd 1 (by kernel_rfl)) hf
          refine dx_ hK hw (wn rfl) (r_lit (d := fI64) (xs := ([a1] : List Int)) (vs := [vI a1]) 7 Try.underlying61 el2 (Nat.le_of_ble_eq_true rfl) (Nat.le_of_ble_eq_true rfl) hw hf rfl rfl rfl) fun v7 w' hΦ => ?_
          obtain ⟨ρ, hw, hE, o7⟩ := hΦ
          exact ⟨_, hw, hE, ex_ <| an_ rfl <| o7⟩
        · intro ρ w a hw hG hf hd K hK
          obtain ⟨o1, o2, o3, o4⟩ := hG
          obtain ⟨_, hf, rfl⟩ := got (hd 0 (by kernel_rfl)) hf
          obtain ⟨_, hf, ⟨v7, rfl, o7⟩⟩ := got (hd 2 (by kernel_rfl)) hf
          refine dc_ hK hw (wn rfl) (r_fn en75 hf rfl) (impl_isIndex_ok (a0 := a0) (h0.now hw) o7.ro hx7) fun v w' hΦ => ?_
          obtain ⟨hb, hΦ⟩ := hΦ
          obtain rfl := hΦ
          have hE := Ext.new (ρ := ρ) 8 hb
          exact ⟨_, hw.new 8 hb, hE, rfl⟩
        · intro ρ w a hw hG hf hd K hK
          obtain ⟨o1, o2, o3, o4⟩ := hG
          obtain ⟨_, hf, rfl⟩ := got (hd 3 (by kernel_rfl)) hf
          exact dv_ hK hw (wn rfl) (r_not hf rfl) rfl
        · intro ρ w a hw hG hf hd K hK
          obtain ⟨o1, o2, o3, o4⟩ := hG
          obtain ⟨_, hf, rfl⟩ := got (hd 4 (by kernel_rfl)) hf
          exact dv_ hK hw (wn rfl) (r_move hf rfl) rfl
        · intro ρ w a hw hG hf hd K hK
          obtain ⟨o1, o2, o3, o4⟩ := hG
          obtain ⟨_, hf, rfl⟩ := got (hd 5 (by kernel_rfl)) hf
          exact dv_ hK hw (wg (b := false) hf rfl rfl rfl hb8) (r_move hf rfl) rfl
        · intro ρ w a hw hG hf hd K hK
          obtain ⟨o1, o2, o3, o4⟩ := hG
          obtain ⟨_, hf, rfl⟩ := got (hd 5 (by kernel_rfl)) hf
          obtain ⟨_, hf, rfl⟩ := got (hd 6 (by kernel_rfl)) hf
          exact dv_ hK hw (wg (b := false) hf rfl rfl rfl hb8) (r_lss hf rfl rfl) rfl
        · intro ρ w a hw hG hf hd K hK
          obtain ⟨o1, o2, o3, o4⟩ := hG
          obtain ⟨_, hf, rfl⟩ := got (hd 5 (by kernel_rfl)) hf
          obtain ⟨_, hf, rfl⟩ := got (hd 7 (by kernel_rfl)) hf
          exact dv_ hK hw (wn rfl) (r_pick (b := false) hf rfl hb8 rfl) rfl
        · intro ρ w a hw hG hf hd K hK
          obtain ⟨o1, o2, o3, o4⟩ := hG
          obtain ⟨_, hf, rfl⟩ := got (hd 8 (by kernel_rfl)) hf
          exact dv_ hK hw (wn rfl) (r_move hf rfl) rfl
        · intro ρ w a hw hG hf hd K hK
          obtain ⟨o1, o2, o3, o4⟩ := hG
          obtain ⟨_, hf, rfl⟩ := got (hd 9 (by kernel_rfl)) hf
          exact dv_ hK hw (wg (b := false) hf rfl rfl rfl hb9) (r_move hf rfl) rfl
        · intro ρ w a hw hG hf hd K hK
          obtain ⟨o1, o2, o3, o4⟩ := hG
          obtain ⟨_, hf, rfl⟩ := got (hd 9 (by kernel_rfl)) hf
          obtain ⟨_, hf, rfl⟩ := got (hd 10 (by kernel_rfl)) hf
          exact dv_ hK hw (wg (b := false) hf rfl rfl rfl hb9) (r_gtr hf rfl rfl) rfl
        · intro ρ w a hw hG hf hd K hK
          obtain ⟨o1, o2, o3, o4⟩ := hG
          obtain ⟨_, hf, rfl⟩ := got (hd 9 (by kernel_rfl)) hf
          obtain ⟨_, hf, rfl⟩ := got (hd 11 (by kernel_rfl)) hf
          exact dv_ hK hw (wn rfl) (r_pick (b := false) hf rfl hb9 rfl) rfl
        · intro ρ w a hw hG hf hd K hK
          obtain ⟨o1, o2, o3, o4⟩ := hG
          obtain ⟨_, hf, rfl⟩ := got (hd 12 (by kernel_rfl)) hf
          exact dv_ hK hw (wn rfl) (r_move hf rfl) rfl
        · intro ρ w a hw hG hf hd K hK
          obtain ⟨o1, o2, o3, o4⟩ := hG
          obtain ⟨_, hf, rfl⟩ := got (hd 13 (by kernel_rfl)) hf
          exact do_ hK (b := true) hw hf rfl rfl rfl hb10 rfl rfl
        · intro ρ w a hw hG hf hd K hK
          obtain ⟨o1, o2, o3, o4⟩ := hG
          obtain ⟨_, hf, rfl⟩ := got (hd 13 (by kernel_rfl)) hf
          obtain ⟨_, hf, rfl⟩ := got (hd 14 (by kernel_rfl)) hf
          exact do_ hK (b := true) hw hf rfl rfl rfl hb10 rfl rfl
        · intro ρ w a hw hG hf hd K hK
          obtain ⟨o1, o2, o3, o4⟩ := hG
          obtain ⟨_, hf, rfl⟩ := got (hd 13 (by kernel_rfl)) hf
          exact do_ hK (b := true) hw hf rfl rfl rfl hb10 rfl rfl
        · intro ρ w a hw hG hf hd K hK
          obtain ⟨o1, o2, o3, o4⟩ := hG
          obtain ⟨_, hf, rfl⟩ := got (hd 13 (by kernel_rfl)) hf
          obtain ⟨_, hf, rfl⟩ := got (hd 16 (by kernel_rfl)) hf
          exact do_ hK (b := true) hw hf rfl rfl rfl hb10 rfl rfl
        · intro ρ w a hw hG hf hd K hK
          obtain ⟨o1, o2, o3, o4⟩ := hG
          obtain ⟨_, hf, rfl⟩ := got (hd 13 (by kernel_rfl)) hf
          exact do_ hK (b := true) hw hf rfl rfl rfl hb10 rfl rfl
        · intro ρ w a hw hG hf hd K hK
          obtain ⟨o1, o2, o3, o4⟩ := hG
          obtain ⟨_, hf, rfl⟩ := got (hd 13 (by kernel_rfl)) hf
          obtain ⟨_, hf, rfl⟩ := got (hd 17 (by kernel_rfl)) hf
          obtain ⟨_, hf, rfl⟩ := got (hd 18 (by kernel_rfl)) hf
          exact do_ hK (b := true) hw hf rfl rfl rfl hb10 rfl rfl
        · intro ρ w a hw hG hf hd K hK
          obtain ⟨o1, o2, o3, o4⟩ := hG
          obtain ⟨_, hf, rfl⟩ := got (hd 13 (by kernel_rfl)) hf
          exact do_ hK (b := true) hw hf rfl rfl rfl hb10 rfl rfl
      intro ρ w a hw hG hf hd
      obtain ⟨o1, o2, o3, o4⟩ := hG
      obtain ⟨_, hf, rfl⟩ := got (hd 13 (by decide)) hf
      obtain ⟨_, hf, rfl⟩ := got (hd 15 (by decide)) hf
      obtain ⟨_, hf, rfl⟩ := got (hd 19 (by decide)) hf
      obtain ⟨_, hf, rfl⟩ := got (hd 20 (by decide)) hf
      refine st_no (b := true) hf rfl rfl rfl hb10 rfl (by decide) fun a hf => ?_
      refine st_no (b := true) hf rfl rfl rfl hb10 rfl (by decide) fun a hf => ?_
      refine s_ hf (r_pick (b := true) hf rfl hb10 rfl) fun a hf => ?_
      refine s_ hf (r_assign hf rfl) fun a hf => ?_
      refine c_nil ⟨rfl, ?_⟩
      obtain rfl := Option.some.inj hF
      exact ⟨_, hw, hf.sub ⟨rfl, rfl, rfl, rfl, rfl, rfl, trivial⟩, o1, o2, o3, o4⟩
    obtain ⟨x11, hx12, hF⟩ := of_bind hF
    obtain ⟨hc13, hF⟩ := of_guard hF
    replace hf : Fr 99 a [(1, vI a1), (2, vI a2), (4, .pointer (some ((⟨g1, 0, none⟩ : Addr).add 0))), (7, .pointer (some ((⟨g2, 0, none⟩ : Addr).add 0))), (8, .pointer (some ((⟨g3, 0, none⟩ : Addr).add 0)))] := hf.sub ⟨rfl, rfl, rfl, rfl, rfl, trivial⟩
    refine c_drawL (h := 21) mixed (by kernel_rfl) (by kernel_rfl) (fun ρ w => Va ρ w 1 g1 28 ([vI a0.p, vI a0.n, vI a0.m, vI a0.k, va0]) ∧ Va ρ w 2 g2 39 (cForm.enc a3) ∧ Va ρ w 3 g3 28 ([vI 0, vI 0, vI 0, vI 0, (.slice none 0 0)]) ∧ O78 ρ w w0 4 (.slice none 0 0) ([] : List Prod)) ?_ [fun ρ w v => .agg ([vI a0.p, vI a0.n, vI a0.m, vI a0.k, va0]).toArray = v, fun ρ w v => vI a1 = v, fun ρ w v => ∃ v7, v7 = v ∧ O2 ρ w w0 7 v7 ([a1]), fun ρ w v => .bool x6 = v, fun ρ w v => .bool (!x6) = v, fun ρ w v => .bool (!x6) = v, fun ρ w v => vI a2 = v, fun ρ w v => .bool (decide (a2 < 0)) = v, fun ρ w v => .bool (decide (a2 < 0)) = v, fun ρ w v => .bool (decide (a2 < 0)) = v, fun ρ w v => vI a2 = v, fun ρ w v => .bool (decide (2 < a2)) = v, fun ρ w v => .bool (decide (2 < a2)) = v, fun ρ w v => .bool (decide (2 < a2)) = v, fun ρ w v => .pointer (some ((⟨g1, 0, none⟩ : Addr).add (0 + 0))) = v, fun ρ w v => vI a0.p = v, fun ρ w v => .agg ([vI a0.p, vI a0.n, vI a0.m, vI a0.k, va0]).toArray = v, fun ρ w v => .agg (cVec3.enc x11).toArray = v, fun ρ w v => vI a2 = v, fun ρ w v => vI (vg 0 x11 a2) = v, fun ρ w v => .agg (cForm.enc a3).toArray = v] ?_ hw ⟨o1, o2, o3, o4⟩ hf ?_ ?_
    · intro ρ w ρ' w' hE hG
      obtain ⟨o1, o2, o3, o4⟩ := hG
      exact ⟨o1.ext hE, o2.ext hE, o3.ext hE, o4.ext hE⟩
    · exact LastsL.cons (fun _ _ _ _ _ _ h => h) <| LastsL.cons (fun _ _ _ _ _ _ h => h) <| LastsL.cons (fun _ _ _ _ _ hE h => by obtain ⟨v7, h, o7⟩ := h; exact ⟨_, h, o7.ext hE⟩) <| LastsL.cons (fun _ _ _ _ _ _ h => h) <| LastsL.cons (fun _ _ _ _ _ _ h => h) <| LastsL.cons (fun _ _ _ _ _ _ h => h) <| LastsL.cons (fun _ _ _ _ _ _ h => h) <| LastsL.cons (fun _ _ _ _ _ _ h => h) <| LastsL.cons (fun _ _ _ _ _ _ h => h) <| LastsL.cons (fun _ _ _ _ _ _ h => h) <| LastsL.cons (fun _ _ _ _ _ _ h => h) <| LastsL.cons (fun _ _ _ _ _ _ h => h) <| LastsL.cons (fun _ _ _ _ _ _ h => h) <| LastsL.cons (fun _ _ _ _ _ _ h => h) <| LastsL.cons (fun _ _ _ _ _ _ h => h) <| LastsL.cons (fun _ _ _ _ _ _ h => h) <| LastsL.cons (fun _ _ _ _ _ _ h => h) <| LastsL.cons (fun _ _ _ _ _ _ h => h) <| LastsL.cons (fun _ _ _ _ _ _ h => h) <| LastsL.cons (fun _ _ _ _ _ _ h => h) <| LastsL.cons (fun _ _ _ _ _ _ h => h) <| LastsL.nil
    · refine StepsB.cons ?_ <| StepsB.cons ?_ <| StepsB.cons ?_ <| StepsB.cons ?_ <| StepsB.cons ?_ <| StepsB.cons ?_ <| StepsB.cons ?_ <| StepsB.cons ?_ <| StepsB.cons ?_ <| StepsB.cons ?_ <| StepsB.cons ?_ <| StepsB.cons ?_ <| StepsB.cons ?_ <| StepsB.cons ?_ <| StepsB.cons ?_ <| StepsB.cons ?_ <| StepsB.cons ?_ <| StepsB.cons ?_ <| StepsB.cons ?_ <| StepsB.cons ?_ <| StepsB.cons ?_ <| StepsB.nil
      · intro ρ w a hw hG hf hd K hK
        obtain ⟨o1, o2, o3, o4⟩ := hG
        exact dv_ hK hw (wn rfl) (r_load_agg ty28 hf rfl o1.cl rfl) rfl
      · intro ρ w a hw hG hf hd K hK
        obtain ⟨o1, o2, o3, o4⟩ := hG
        exact dv_ hK hw (wn rfl) (r_move hf rfl) rfl
      · intro ρ w a hw hG hf hd K hK
        obtain ⟨o1, o2, o3, o4⟩ := hG
        obtain ⟨_, hf, rfl⟩ := got (hd 1 (by kernel_rfl)) hf
        refine dx_ hK hw (wn rfl) (r_lit (d := fI64) (xs := ([a1] : List Int)) (vs := [vI a1]) 7 Try.underlying61 el2 (Nat.le_of_ble_eq_true rfl) (Nat.le_of_ble_eq_true rfl) hw hf rfl rfl rfl) fun v7 w' hΦ => ?_
        obtain ⟨ρ, hw, hE, o7⟩ := hΦ
        exact ⟨_, hw, hE, ex_ <| an_ rfl <| o7⟩
      · intro ρ w a hw hG hf hd K hK
        obtain ⟨o1, o2, o3, o4⟩ := hG
        obtain ⟨_, hf, rfl⟩ := got (hd 0 (by kernel_rfl)) hf
        obtain ⟨_, hf, ⟨v7, rfl, o7⟩⟩ := got (hd 2 (by kernel_rfl)) hf
        refine dc_ hK hw (wn rfl) (r_fn en75 hf rfl) (impl_isIndex_ok (a0 := a0) (h0.now hw) o7.ro hx7) fun v w' hΦ => ?_
        obtain ⟨hb, hΦ⟩ := hΦ
        obtain rfl := hΦ
        have hE := Ext.new (ρ := ρ) 8 hb
        exact ⟨_, hw.new 8 hb, hE, rfl⟩
      · intro ρ w a hw hG hf hd K hK
        obtain ⟨o1, o2, o3, o4⟩ := hG
        obtain ⟨_, hf, rfl⟩ := got (hd 3 (by kernel_rfl)) hf
        exact dv_ hK hw (wn rfl) (r_not hf rfl) rfl
      · intro ρ w a hw hG hf hd K hK
        obtain ⟨o1, o2, o3, o4⟩ := hG
        obtain ⟨_, hf, rfl⟩ := got (hd 4 (by kernel_rfl)) hf
        exact dv_ hK hw (wn rfl) (r_move hf rfl) rfl
      · intro ρ w a hw hG hf hd K hK
        obtain ⟨o1, o2, o3, o4⟩ := hG
        obtain ⟨_, hf, rfl⟩ := got (hd 5 (by kernel_rfl)) hf
        exact dv_ hK hw (wg (b := false) hf rfl rfl rfl hb8) (r_move hf rfl) rfl
      · intro ρ w a hw hG hf hd K hK
        obtain ⟨o1, o2, o3, o4⟩ := hG
        obtain ⟨_, hf, rfl⟩ := got (hd 5 (by kernel_rfl)) hf
        obtain ⟨_, hf, rfl⟩ := got (hd 6 (by kernel_rfl)) hf
        exact dv_ hK hw (wg (b := false) hf rfl rfl rfl hb8) (r_lss hf rfl rfl) rfl
      · intro ρ w a hw hG hf hd K hK
        obtain ⟨o1, o2, o3, o4⟩ := hG
        obtain ⟨_, hf, rfl⟩ := got (hd 5 (by kernel_rfl)) hf
        obtain ⟨_, hf, rfl⟩ := got (hd 7 (by kernel_rfl)) hf
        exact dv_ hK hw (wn rfl) (r_pick (b := false) hf rfl hb8 rfl) rfl
      · intro ρ w a hw hG hf hd K hK
        obtain ⟨o1, o2, o3, o4⟩ := hG
        obtain ⟨_, hf, rfl⟩ := got (hd 8 (by kernel_rfl)) hf
        exact dv_ hK hw (wn rfl) (r_move hf rfl) rfl
      · intro ρ w a hw hG hf hd K hK
        obtain ⟨o1, o2, o3, o4⟩ := hG
        obtain ⟨_, hf, rfl⟩ := got (hd 9 (by kernel_rfl)) hf
        exact dv_ hK hw (wg (b := false) hf rfl rfl rfl hb9) (r_move hf rfl) rfl
      · intro ρ w a hw hG hf hd K hK
        obtain ⟨o1, o2, o3, o4⟩ := hG
        obtain ⟨_, hf, rfl⟩ := got (hd 9 (by kernel_rfl)) hf
        obtain ⟨_, hf, rfl⟩ := got (hd 10 (by kernel_rfl)) hf
        exact dv_ hK hw (wg (b := false) hf rfl rfl rfl hb9) (r_gtr hf rfl rfl) rfl
      · intro ρ w a hw hG hf hd K hK
        obtain ⟨o1, o2, o3, o4⟩ := hG
        obtain ⟨_, hf, rfl⟩ := got (hd 9 (by kernel_rfl)) hf
        obtain ⟨_, hf, rfl⟩ := got (hd 11 (by kernel_rfl)) hf
        exact dv_ hK hw (wn rfl) (r_pick (b := false) hf rfl hb9 rfl) rfl
      · intro ρ w a hw hG hf hd K hK
        obtain ⟨o1, o2, o3, o4⟩ := hG
        obtain ⟨_, hf, rfl⟩ := got (hd 12 (by kernel_rfl)) hf
        exact dv_ hK hw (wn rfl) (r_move hf rfl) rfl
      · intro ρ w a hw hG hf hd K hK
        obtain ⟨o1, o2, o3, o4⟩ := hG
        obtain ⟨_, hf, rfl⟩ := got (hd 13 (by kernel_rfl)) hf
        exact dv_ hK hw (wg (b := false) hf rfl rfl rfl hb10) (r_fa fa28_0 hf rfl) rfl
      · intro ρ w a hw hG hf hd K hK
        obtain ⟨o1, o2, o3, o4⟩ := hG
        obtain ⟨_, hf, rfl⟩ := got (hd 13 (by kernel_rfl)) hf
        obtain ⟨_, hf, rfl⟩ := got (hd 14 (by kernel_rfl)) hf
        exact dv_ hK hw (wg (b := false) hf rfl rfl rfl hb10) (r_load_cell ty2 hf rfl (o1.cl.at_ 0 _ rfl)) rfl
      · intro ρ w a hw hG hf hd K hK
        obtain ⟨o1, o2, o3, o4⟩ := hG
        obtain ⟨_, hf, rfl⟩ := got (hd 13 (by kernel_rfl)) hf
        exact dv_ hK hw (wg (b := false) hf rfl rfl rfl hb10) (r_load_agg ty28 hf rfl o1.cl rfl) rfl
      · intro ρ w a hw hG hf hd K hK
        obtain ⟨o1, o2, o3, o4⟩ := hG
        obtain ⟨_, hf, rfl⟩ := got (hd 13 (by kernel_rfl)) hf
        obtain ⟨_, hf, rfl⟩ := got (hd 16 (by kernel_rfl)) hf
        refine dc_ hK hw (wg (b := false) hf rfl rfl rfl hb10) (r_fn en86 hf rfl) (impl_placesOf_ok (a0 := a0) (h0.now hw) hx12) fun v w' hΦ => ?_
        obtain ⟨hb, hΦ⟩ := hΦ
        obtain rfl := hΦ
        have hE := Ext.new (ρ := ρ) 9 hb
        exact ⟨_, hw.new 9 hb, hE, rfl⟩
      · intro ρ w a hw hG hf hd K hK
        obtain ⟨o1, o2, o3, o4⟩ := hG
        obtain ⟨_, hf, rfl⟩ := got (hd 13 (by kernel_rfl)) hf
        exact dv_ hK hw (wg (b := false) hf rfl rfl rfl hb10) (r_move hf rfl) rfl
      · intro ρ w a hw hG hf hd K hK
        obtain ⟨o1, o2, o3, o4⟩ := hG
        obtain ⟨_, hf, rfl⟩ := got (hd 13 (by kernel_rfl)) hf
        obtain ⟨_, hf, rfl⟩ := got (hd 17 (by kernel_rfl)) hf
        obtain ⟨_, hf, rfl⟩ := got (hd 18 (by kernel_rfl)) hf
        exact dv_ hK hw (wg (b := false) hf rfl rfl rfl hb10) (r_index_lc Try.underlying89 ty2 hf rfl rfl hc13.1 hc13.2 (Lens.vec 0 fI64 a2 hc13.1 hc13.2) rfl) rfl
      · intro ρ w a hw hG hf hd K hK
        obtain ⟨o1, o2, o3, o4⟩ := hG
        obtain ⟨_, hf, rfl⟩ := got (hd 13 (by kernel_rfl)) hf
        exact dv_ hK hw (wg (b := false) hf rfl rfl rfl hb10) (r_load_agg ty39 hf rfl o2.cl (cForm.len _)) rfl
    intro ρ w a hw hG hf hd
    obtain ⟨o1, o2, o3, o4⟩ := hG
    obtain ⟨_, hf, rfl⟩ := got (hd 13 (by decide)) hf
    obtain ⟨_, hf, rfl⟩ := got (hd 15 (by decide)) hf
    obtain ⟨_, hf, rfl⟩ := got (hd 19 (by decide)) hf
    obtain ⟨_, hf, rfl⟩ := got (hd 20 (by decide)) hf
    obtain ⟨x14, hx15, hF⟩ := of_bind hF
    refine st_gfn (b := false) 10 hw hf rfl rfl rfl hb10 rfl (by decide) (r_fn en85 hf rfl) (impl_isForm_ok  hx15) fun a v w ρ hf hw hE hN hΦ => ?_
    obtain rfl := hΦ
    replace o1 := o1.ext hE
    replace o2 := o2.ext hE
    replace o3 := o3.ext hE
    replace o4 := o4.ext hE
    refine st_g (b := false) hf rfl rfl rfl hb10 rfl (by decide) (r_not hf rfl) fun a hf => ?_
    refine s_ hf (r_pick (b := false) hf rfl hb10 rfl) fun a hf => ?_
    refine s_ hf (r_assign hf rfl) fun a hf => ?_
    refine c_nil ⟨rfl, ?_⟩
    obtain rfl := Option.some.inj hF
    exact ⟨_, hw, hf.sub ⟨rfl, rfl, rfl, rfl, rfl, rfl, trivial⟩, o1, o2, o3, o4⟩
  rintro a w ⟨ρ, hw, hf, o1, o2, o3, o4⟩
  have hF := hG4
  refine n_then ?_
  rcases of_ite hF with ⟨hb16, hF⟩ | ⟨hb16, hF⟩
  · refine c_ift hf rfl hb16 <| c_seq <| c_region ?_
    have o11 : Ow (kf cProd) 78 ρ w w0.heap.size 11 (.slice none 0 0) [] := Ow.nil _ _ _ _ _ _
    refine s_ hf (r_build_struct (pl := [(0, 1), (1, 1), (2, 1), (3, 1), (4, 1)]) (vs := []) (res := ([vI 0, vI 0, vI 0, vI 0, (.slice none 0 0)]).toArray) Try.underlying28 (by kernel_rfl) ze28 hf rfl rfl rfl) fun a hf => ?_
    refine sk_ hf (r_store_w (cs' := [vI 0, vI 0, vI 0, vI 0, (.slice none 0 0)]) hw o3 (by decide) ty28 rfl rfl (one_sch o11.ro.one) hf rfl rfl rfl) fun a w hf hΦ => ?_
    obtain ⟨hw, hA, o3⟩ := hΦ
    replace o1 := o1.adv hA (by decide)
    replace o2 := o2.adv hA (by decide)
    replace o4 := o4.adv hA (by decide)
    replace o11 := o11.adv hA (by decide)
    refine s_ hf (r_assign hf rfl) fun a hf => ?_
    refine c_nt <| c_retc ?_
    obtain rfl := Option.some.inj hF
    refine r_block <| r_then <| c_ret hf (res_ct Try.results26 ty28 hf rfl o3.cl rfl rfl) ?_
    exact ⟨_, rfl, hw.below, ⟨_, rfl, o11.out⟩⟩
  refine c_iff hf rfl hb16 <| c_skip <| n_block <| n_then <| c_seq <| c_region ?_
  refine s_ hf (r_fa fa28_4 hf rfl) fun a hf => ?_
  refine s_ hf (r_load_cell ty26 hf rfl (o1.cl.at_ 4 _ rfl)) fun a hf => ?_
  refine s_ hf (r_move hf rfl) fun a hf => ?_
  obtain ⟨hc17, hF⟩ := of_guard hF
  obtain ⟨ad18, c18, he18, hl18⟩ := Ro.el cProd h0 zProd hc17.1 hc17.2
  refine s_ hf (r_idx Try.underlying26 sz78 hf rfl ⟨_, he18⟩ rfl hc17.1 hc17.2) fun a hf => ?_
  refine s_ hf (r_load_agg ty78 hf rfl (hl18.below hw.below) (cProd.len _)) fun a hf => ?_
  obtain ⟨x19, hx20, hF⟩ := of_bind hF
  refine st_fn 12 hw hf rfl rfl (by decide) (r_fn en87 hf rfl) (impl_factors_ok  hx20) fun a v w ρ hf hw hE hN hΦ => ?_
  obtain rfl := hΦ
  replace o1 := o1.ext hE
  replace o2 := o2.ext hE
  replace o3 := o3.ext hE
  replace o4 := o4.ext hE
  refine sx_ hf (r_alloc (cs := cForms.enc zForms) 13 ze91 rfl hw) fun a v w hf hΦ => ?_
  obtain ⟨g13, ρ, rfl, hw, hE, o13⟩ := hΦ
  replace o1 := o1.ext hE
  replace o2 := o2.ext hE
  replace o3 := o3.ext hE
  replace o4 := o4.ext hE
  refine sk_ hf (r_store_w (cs' := cForms.enc x19) hw o13 (by decide) ty91 (cForms.len _) (cForms.len _) (cForms.one _) hf rfl rfl rfl) fun a w hf hΦ => ?_
  obtain ⟨hw, hA, o13⟩ := hΦ
  replace o1 := o1.adv hA (by decide)
  replace o2 := o2.adv hA (by decide)
  replace o3 := o3.adv hA (by decide)
  replace o4 := o4.adv hA (by decide)
  refine c_nt <| c_seq <| c_region ?_
  refine s_ hf (r_load_agg ty91 hf rfl o13.cl (cForms.len _)) fun a hf => ?_
  refine sx_ hf (r_alloc (cs := cForms.enc zForms) 14 ze91 rfl hw) fun a v w hf hΦ => ?_
  obtain ⟨g14, ρ, rfl, hw, hE, o14⟩ := hΦ
  replace o1 := o1.ext hE
  replace o2 := o2.ext hE
  replace o3 := o3.ext hE
  replace o4 := o4.ext hE
  replace o13 := o13.ext hE
  refine sk_ hf (r_store_w (cs' := cForms.enc x19) hw o14 (by decide) ty91 (cForms.len _) (cForms.len _) (cForms.one _) hf rfl rfl rfl) fun a w hf hΦ => ?_
  obtain ⟨hw, hA, o14⟩ := hΦ
  replace o1 := o1.adv hA (by decide)
  replace o2 := o2.adv hA (by decide)
  replace o3 := o3.adv hA (by decide)
  replace o4 := o4.adv hA (by decide)
  replace o13 := o13.adv hA (by decide)
  refine c_nt <| c_seq <| c_block <| c_seq ?_
  obtain ⟨s22, hT21, hG21⟩ := of_bind hF
  clear hF
  refine c_meet (fun (s22 : Bool) a w => ∃ ρ, Wd w0 ρ w ∧ Fr 99 a [(1, vI a1), (2, vI a2), (4, .pointer (some ((⟨g1, 0, none⟩ : Addr).add 0))), (7, .pointer (some ((⟨g2, 0, none⟩ : Addr).add 0))), (8, .pointer (some ((⟨g3, 0, none⟩ : Addr).add 0))), (10, .pointer (some ((⟨g13, 0, none⟩ : Addr).add 0))), (11, .pointer (some ((⟨g14, 0, none⟩ : Addr).add 0))), (51, .bool s22)] ∧ Va ρ w 1 g1 28 ([vI a0.p, vI a0.n, vI a0.m, vI a0.k, va0]) ∧ Va ρ w 2 g2 39 (cForm.enc a3) ∧ Va ρ w 3 g3 28 ([vI 0, vI 0, vI 0, vI 0, (.slice none 0 0)]) ∧ O78 ρ w w0 4 (.slice none 0 0) ([] : List Prod) ∧ Va ρ w 13 g13 91 (cForms.enc x19) ∧ Va ρ w 14 g14 91 (cForms.enc x19)) s22 ?_ ?_
  · have hF := hT21
    rcases of_ite hF with ⟨hb23, hF⟩ | ⟨hb23, hF⟩
    · replace hf : Fr 99 a [(1, vI a1), (2, vI a2), (4, .pointer (some ((⟨g1, 0, none⟩ : Addr).add 0))), (7, .pointer (some ((⟨g2, 0, none⟩ : Addr).add 0))), (8, .pointer (some ((⟨g3, 0, none⟩ : Addr).add 0))), (10, .pointer (some ((⟨g13, 0, none⟩ : Addr).add 0))), (11, .pointer (some ((⟨g14, 0, none⟩ : Addr).add 0)))] := hf.sub ⟨rfl, rfl, rfl, rfl, rfl, rfl, rfl, trivial⟩
      refine c_drawL (h := 8) mixed (by kernel_rfl) (by kernel_rfl) (fun ρ w => Va ρ w 1 g1 28 ([vI a0.p, vI a0.n, vI a0.m, vI a0.k, va0]) ∧ Va ρ w 2 g2 39 (cForm.enc a3) ∧ Va ρ w 3 g3 28 ([vI 0, vI 0, vI 0, vI 0, (.slice none 0 0)]) ∧ O78 ρ w w0 4 (.slice none 0 0) ([] : List Prod) ∧ Va ρ w 13 g13 91 (cForms.enc x19) ∧ Va ρ w 14 g14 91 (cForms.enc x19)) ?_ [fun ρ w v => .agg (cForm.enc a3).toArray = v, fun ρ w v => .agg (cForm.enc zForm).toArray = v, fun ρ w v => .bool (decide (a3 = zForm)) = v, fun ρ w v => .bool (decide (a3 = zForm)) = v, fun ρ w v => undef = v, fun ρ w v => undef = v, fun ρ w v => undef = v, fun ρ w v => undef = v] ?_ hw ⟨o1, o2, o3, o4, o13, o14⟩ hf ?_ ?_
      · intro ρ w ρ' w' hE hG
        obtain ⟨o1, o2, o3, o4, o13, o14⟩ := hG
        exact ⟨o1.ext hE, o2.ext hE, o3.ext hE, o4.ext hE, o13.ext hE, o14.ext hE⟩
      · exact LastsL.cons (fun _ _ _ _ _ _ h => h) <| LastsL.cons (fun _ _ _ _ _ _ h => h) <| LastsL.cons (fun _ _ _ _ _ _ h => h) <| LastsL.cons (fun _ _ _ _ _ _ h => h) <| LastsL.cons (fun _ _ _ _ _ _ h => h) <| LastsL.cons (fun _ _ _ _ _ _ h => h) <| LastsL.cons (fun _ _ _ _ _ _ h => h) <| LastsL.cons (fun _ _ _ _ _ _ h => h) <| LastsL.nil
      · refine StepsB.cons ?_ <| StepsB.cons ?_ <| StepsB.cons ?_ <| StepsB.cons ?_ <| StepsB.cons ?_ <| StepsB.cons ?_ <| StepsB.cons ?_ <| StepsB.cons ?_ <| StepsB.nil
        · intro ρ w a hw hG hf hd K hK
          obtain ⟨o1, o2, o3, o4, o13, o14⟩ := hG
          exact dv_ hK hw (wn rfl) (r_load_agg ty39 hf rfl o2.cl (cForm.len _)) rfl
        · intro ρ w a hw hG hf hd K hK
          obtain ⟨o1, o2, o3, o4, o13, o14⟩ := hG
          exact dv_ hK hw (wn rfl) (r_build_arr (vs := []) (res := (cForm.enc zForm).toArray) Try.underlying39 sz5 ze39 hf rfl rfl rfl) rfl
        · intro ρ w a hw hG hf hd K hK
          obtain ⟨o1, o2, o3, o4, o13, o14⟩ := hG
          obtain ⟨_, hf, rfl⟩ := got (hd 0 (by kernel_rfl)) hf
          obtain ⟨_, hf, rfl⟩ := got (hd 1 (by kernel_rfl)) hf
          exact dv_ hK hw (wn rfl) (r_eq (d := cForm) eq39 ⟨_, rfl⟩ gt39 hf rfl rfl) rfl
        · intro ρ w a hw hG hf hd K hK
          obtain ⟨o1, o2, o3, o4, o13, o14⟩ := hG
          obtain ⟨_, hf, rfl⟩ := got (hd 2 (by kernel_rfl)) hf
          exact dv_ hK hw (wn rfl) (r_move hf rfl) rfl
        · intro ρ w a hw hG hf hd K hK
          obtain ⟨o1, o2, o3, o4, o13, o14⟩ := hG
          obtain ⟨_, hf, rfl⟩ := got (hd 3 (by kernel_rfl)) hf
          exact do_ hK (b := true) hw hf rfl rfl rfl hb23 rfl rfl
        · intro ρ w a hw hG hf hd K hK
          obtain ⟨o1, o2, o3, o4, o13, o14⟩ := hG
          obtain ⟨_, hf, rfl⟩ := got (hd 3 (by kernel_rfl)) hf
          exact do_ hK (b := true) hw hf rfl rfl rfl hb23 rfl rfl
        · intro ρ w a hw hG hf hd K hK
          obtain ⟨o1, o2, o3, o4, o13, o14⟩ := hG
          obtain ⟨_, hf, rfl⟩ := got (hd 3 (by kernel_rfl)) hf
          obtain ⟨_, hf, rfl⟩ := got (hd 5 (by kernel_rfl)) hf
          exact do_ hK (b := true) hw hf rfl rfl rfl hb23 rfl rfl
        · intro ρ w a hw hG hf hd K hK
          obtain ⟨o1, o2, o3, o4, o13, o14⟩ := hG
          obtain ⟨_, hf, rfl⟩ := got (hd 3 (by kernel_rfl)) hf
          obtain ⟨_, hf, rfl⟩ := got (hd 6 (by kernel_rfl)) hf
          exact do_ hK (b := true) hw hf rfl rfl rfl hb23 rfl rfl
      intro ρ w a hw hG hf hd
      obtain ⟨o1, o2, o3, o4, o13, o14⟩ := hG
      obtain ⟨_, hf, rfl⟩ := got (hd 3 (by decide)) hf
      obtain ⟨_, hf, rfl⟩ := got (hd 4 (by decide)) hf
      obtain ⟨_, hf, rfl⟩ := got (hd 7 (by decide)) hf
      refine st_no (b := true) hf rfl rfl rfl hb23 rfl (by decide) fun a hf => ?_
      refine s_ hf (r_pick (b := true) hf rfl hb23 rfl) fun a hf => ?_
      refine s_ hf (r_assign hf rfl) fun a hf => ?_
      refine c_nil ⟨rfl, ?_⟩
      obtain rfl := Option.some.inj hF
      exact ⟨_, hw, hf.sub ⟨rfl, rfl, rfl, rfl, rfl, rfl, rfl, rfl, trivial⟩, o1, o2, o3, o4, o13, o14⟩
    obtain ⟨hc24, hF⟩ := of_guard hF
    replace hf : Fr 99 a [(1, vI a1), (2, vI a2), (4, .pointer (some ((⟨g1, 0, none⟩ : Addr).add 0))), (7, .pointer (some ((⟨g2, 0, none⟩ : Addr).add 0))), (8, .pointer (some ((⟨g3, 0, none⟩ : Addr).add 0))), (10, .pointer (some ((⟨g13, 0, none⟩ : Addr).add 0))), (11, .pointer (some ((⟨g14, 0, none⟩ : Addr).add 0)))] := hf.sub ⟨rfl, rfl, rfl, rfl, rfl, rfl, rfl, trivial⟩
    refine c_drawL (h := 8) mixed (by kernel_rfl) (by kernel_rfl) (fun ρ w => Va ρ w 1 g1 28 ([vI a0.p, vI a0.n, vI a0.m, vI a0.k, va0]) ∧ Va ρ w 2 g2 39 (cForm.enc a3) ∧ Va ρ w 3 g3 28 ([vI 0, vI 0, vI 0, vI 0, (.slice none 0 0)]) ∧ O78 ρ w w0 4 (.slice none 0 0) ([] : List Prod) ∧ Va ρ w 13 g13 91 (cForms.enc x19) ∧ Va ρ w 14 g14 91 (cForms.enc x19)) ?_ [fun ρ w v => .agg (cForm.enc a3).toArray = v, fun ρ w v => .agg (cForm.enc zForm).toArray = v, fun ρ w v => .bool (decide (a3 = zForm)) = v, fun ρ w v => .bool (decide (a3 = zForm)) = v, fun ρ w v => .agg (cForm.enc a3).toArray = v, fun ρ w v => vI a2 = v, fun ρ w v => .pointer (some ((⟨g13, 0, none⟩ : Addr).add (0 + a2.toNat * 9))) = v, fun ρ w v => .agg (cForm.enc (vg zForm x19 a2)).toArray = v] ?_ hw ⟨o1, o2, o3, o4, o13, o14⟩ hf ?_ ?_
    · intro ρ w ρ' w' hE hG
      obtain ⟨o1, o2, o3, o4, o13, o14⟩ := hG
      exact ⟨o1.ext hE, o2.ext hE, o3.ext hE, o4.ext hE, o13.ext hE, o14.ext hE⟩
    · exact LastsL.cons (fun _ _ _ _ _ _ h => h) <| LastsL.cons (fun _ _ _ _ _ _ h => h) <| LastsL.cons (fun _ _ _ _ _ _ h => h) <| LastsL.cons (fun _ _ _ _ _ _ h => h) <| LastsL.cons (fun _ _ _ _ _ _ h => h) <| LastsL.cons (fun _ _ _ _ _ _ h => h) <| LastsL.cons (fun _ _ _ _ _ _ h => h) <| LastsL.cons (fun _ _ _ _ _ _ h => h) <| LastsL.nil
    · refine StepsB.cons ?_ <| StepsB.cons ?_ <| StepsB.cons ?_ <| StepsB.cons ?_ <| StepsB.cons ?_ <| StepsB.cons ?_ <| StepsB.cons ?_ <| StepsB.cons ?_ <| StepsB.nil
      · intro ρ w a hw hG hf hd K hK
        obtain ⟨o1, o2, o3, o4, o13, o14⟩ := hG
        exact dv_ hK hw (wn rfl) (r_load_agg ty39 hf rfl o2.cl (cForm.len _)) rfl
      · intro ρ w a hw hG hf hd K hK
        obtain ⟨o1, o2, o3, o4, o13, o14⟩ := hG
        exact dv_ hK hw (wn rfl) (r_build_arr (vs := []) (res := (cForm.enc zForm).toArray) Try.underlying39 sz5 ze39 hf rfl rfl rfl) rfl
      · intro ρ w a hw hG hf hd K hK
        obtain ⟨o1, o2, o3, o4, o13, o14⟩ := hG
        obtain ⟨_, hf, rfl⟩ := got (hd 0 (by kernel_rfl)) hf
        obtain ⟨_, hf, rfl⟩ := got (hd 1 (by kernel_rfl)) hf
        exact dv_ hK hw (wn rfl) (r_eq (d := cForm) eq39 ⟨_, rfl⟩ gt39 hf rfl rfl) rfl
      · intro ρ w a hw hG hf hd K hK
        obtain ⟨o1, o2, o3, o4, o13, o14⟩ := hG
        obtain ⟨_, hf, rfl⟩ := got (hd 2 (by kernel_rfl)) hf
        exact dv_ hK hw (wn rfl) (r_move hf rfl) rfl
      · intro ρ w a hw hG hf hd K hK
        obtain ⟨o1, o2, o3, o4, o13, o14⟩ := hG
        obtain ⟨_, hf, rfl⟩ := got (hd 3 (by kernel_rfl)) hf
        exact dv_ hK hw (wg (b := false) hf rfl rfl rfl hb23) (r_load_agg ty39 hf rfl o2.cl (cForm.len _)) rfl
      · intro ρ w a hw hG hf hd K hK
        obtain ⟨o1, o2, o3, o4, o13, o14⟩ := hG
        obtain ⟨_, hf, rfl⟩ := got (hd 3 (by kernel_rfl)) hf
        exact dv_ hK hw (wg (b := false) hf rfl rfl rfl hb23) (r_move hf rfl) rfl
      · intro ρ w a hw hG hf hd K hK
        obtain ⟨o1, o2, o3, o4, o13, o14⟩ := hG
        obtain ⟨_, hf, rfl⟩ := got (hd 3 (by kernel_rfl)) hf
        obtain ⟨_, hf, rfl⟩ := got (hd 5 (by kernel_rfl)) hf
        exact dv_ hK hw (wg (b := false) hf rfl rfl rfl hb23) (r_indexAddr_arr Try.underlying91 sz39 hf rfl rfl hc24.1 hc24.2) rfl
      · intro ρ w a hw hG hf hd K hK
        obtain ⟨o1, o2, o3, o4, o13, o14⟩ := hG
        obtain ⟨_, hf, rfl⟩ := got (hd 3 (by kernel_rfl)) hf
        obtain ⟨_, hf, rfl⟩ := got (hd 6 (by kernel_rfl)) hf
        exact dv_ hK hw (wg (b := false) hf rfl rfl rfl hb23) (r_load_agg ty39 hf rfl (o13.cl.lens (Lens.vec zForm cForm a2 hc24.1 hc24.2)) (cForm.len _)) rfl
    intro ρ w a hw hG hf hd
    obtain ⟨o1, o2, o3, o4, o13, o14⟩ := hG
    obtain ⟨_, hf, rfl⟩ := got (hd 3 (by decide)) hf
    obtain ⟨_, hf, rfl⟩ := got (hd 4 (by decide)) hf
    obtain ⟨_, hf, rfl⟩ := got (hd 7 (by decide)) hf
    refine st_g (b := false) hf rfl rfl rfl hb23 rfl (by decide) (r_eq (d := cForm) eq39 ⟨_, rfl⟩ gt39 hf rfl rfl) fun a hf => ?_
    refine s_ hf (r_pick (b := false) hf rfl hb23 rfl) fun a hf => ?_
    refine s_ hf (r_assign hf rfl) fun a hf => ?_
    refine c_nil ⟨rfl, ?_⟩
    obtain rfl := Option.some.inj hF
    exact ⟨_, hw, hf.sub ⟨rfl, rfl, rfl, rfl, rfl, rfl, rfl, rfl, trivial⟩, o1, o2, o3, o4, o13, o14⟩
  rintro a w ⟨ρ, hw, hf, o1, o2, o3, o4, o13, o14⟩
  have hF := hG21
  refine n_then ?_
  rcases of_ite hF with ⟨hb25, hF⟩ | ⟨hb25, hF⟩
  · refine c_ift hf rfl hb25 <| c_seq <| c_region ?_
    have o15 : Ow (kf cProd) 78 ρ w w0.heap.size 15 (.slice none 0 0) [] := Ow.nil _ _ _ _ _ _
    refine s_ hf (r_build_struct (pl := [(0, 1), (1, 1), (2, 1), (3, 1), (4, 1)]) (vs := []) (res := ([vI 0, vI 0, vI 0, vI 0, (.slice none 0 0)]).toArray) Try.underlying28 (by kernel_rfl) ze28 hf rfl rfl rfl) fun a hf => ?_
    refine sk_ hf (r_store_w (cs' := [vI 0, vI 0, vI 0, vI 0, (.slice none 0 0)]) hw o3 (by decide) ty28 rfl rfl (one_sch o15.ro.one) hf rfl rfl rfl) fun a w hf hΦ => ?_
    obtain ⟨hw, hA, o3⟩ := hΦ
    replace o1 := o1.adv hA (by decide)
    replace o2 := o2.adv hA (by decide)
    replace o4 := o4.adv hA (by decide)
    replace o13 := o13.adv hA (by decide)
    replace o14 := o14.adv hA (by decide)
    replace o15 := o15.adv hA (by decide)
    refine s_ hf (r_assign hf rfl) fun a hf => ?_
    refine c_nt <| c_retc ?_
    obtain rfl := Option.some.inj hF
    refine r_block <| r_then <| c_ret hf (res_ct Try.results26 ty28 hf rfl o3.cl rfl rfl) ?_
    exact ⟨_, rfl, hw.below, ⟨_, rfl, o15.out⟩⟩
  refine c_iff hf rfl hb25 <| c_seq <| c_region ?_
  refine s_ hf (r_fa fa28_4 hf rfl) fun a hf => ?_
  refine s_ hf (r_load_cell ty26 hf rfl (o1.cl.at_ 4 _ rfl)) fun a hf => ?_
  refine s_ hf (r_len Try.underlying26 (h0.now hw) hf rfl) fun a hf => ?_
  refine s_ hf (r_eql hf rfl rfl) fun a hf => ?_
  refine s_ hf (r_assign hf rfl) fun a hf => ?_
  refine c_nt ?_
  rcases of_ite hF with ⟨hb26, hF⟩ | ⟨hb26, hF⟩
  · refine c_ift hf rfl hb26 <| c_seq <| c_region ?_
    have o16 : Ow (kf cProd) 78 ρ w w0.heap.size 16 (.slice none 0 0) [] := Ow.nil _ _ _ _ _ _
    refine s_ hf (r_build_struct (pl := [(0, 1), (1, 1), (2, 1), (3, 1), (4, 1)]) (vs := []) (res := ([vI 0, vI 0, vI 0, vI 0, (.slice none 0 0)]).toArray) Try.underlying28 (by kernel_rfl) ze28 hf rfl rfl rfl) fun a hf => ?_
    refine sk_ hf (r_store_w (cs' := [vI 0, vI 0, vI 0, vI 0, (.slice none 0 0)]) hw o3 (by decide) ty28 rfl rfl (one_sch o16.ro.one) hf rfl rfl rfl) fun a w hf hΦ => ?_
    obtain ⟨hw, hA, o3⟩ := hΦ
    replace o1 := o1.adv hA (by decide)
    replace o2 := o2.adv hA (by decide)
    replace o4 := o4.adv hA (by decide)
    replace o13 := o13.adv hA (by decide)
    replace o14 := o14.adv hA (by decide)
    replace o16 := o16.adv hA (by decide)
    refine s_ hf (r_assign hf rfl) fun a hf => ?_
    refine c_nt <| c_retc ?_
    obtain rfl := Option.some.inj hF
    refine r_block <| r_then <| c_ret hf (res_ct Try.results26 ty28 hf rfl o3.cl rfl rfl) ?_
    exact ⟨_, rfl, hw.below, ⟨_, rfl, o16.out⟩⟩
  refine c_iff hf rfl hb26 <| c_skip <| n_block <| n_then <| c_seq <| c_region ?_
  refine s_ hf (r_move hf rfl) fun a hf => ?_
  refine s_ hf (r_load_agg ty39 hf rfl o2.cl (cForm.len _)) fun a hf => ?_
  obtain ⟨hc27, hF⟩ := of_guard hF
  refine s_ hf (r_indexAddr_arr Try.underlying91 sz39 hf rfl rfl hc27.1 hc27.2) fun a hf => ?_
  refine sk_ hf (r_store_l (b := a3) hw o13 (by decide) (Lens.vec zForm cForm a2 hc27.1 hc27.2) (by simp only [Nat.zero_add] <;> rfl) ty39 hf rfl rfl rfl) fun a w hf hΦ => ?_
  obtain ⟨hw, hA, o13⟩ := hΦ
  replace o1 := o1.adv hA (by decide)
  replace o2 := o2.adv hA (by decide)
  replace o3 := o3.adv hA (by decide)
  replace o4 := o4.adv hA (by decide)
  replace o14 := o14.adv hA (by decide)
  refine c_nt <| c_seq ?_
  obtain ⟨x28, hx29, hF⟩ := of_bind hF
  replace hf : Fr 99 a [(1, vI a1), (2, vI a2), (4, .pointer (some ((⟨g1, 0, none⟩ : Addr).add 0))), (7, .pointer (some ((⟨g2, 0, none⟩ : Addr).add 0))), (8, .pointer (some ((⟨g3, 0, none⟩ : Addr).add 0))), (10, .pointer (some ((⟨g13, 0, none⟩ : Addr).add 0))), (11, .pointer (some ((⟨g14, 0, none⟩ : Addr).add 0)))] := hf.sub ⟨rfl, rfl, rfl, rfl, rfl, rfl, rfl, trivial⟩
  refine c_drawL (h := 11) mixed (by kernel_rfl) (by kernel_rfl) (fun ρ w => Va ρ w 1 g1 28 ([vI a0.p, vI a0.n, vI a0.m, vI a0.k, va0]) ∧ Va ρ w 2 g2 39 (cForm.enc a3) ∧ Va ρ w 3 g3 28 ([vI 0, vI 0, vI 0, vI 0, (.slice none 0 0)]) ∧ O78 ρ w w0 4 (.slice none 0 0) ([] : List Prod) ∧ Va ρ w 13 g13 91 (cForms.enc (vs x19 a2 a3)) ∧ Va ρ w 14 g14 91 (cForms.enc x19)) ?_ [fun ρ w v => vI a2 = v, fun ρ w v => .pointer (some ((⟨g1, 0, none⟩ : Addr).add (0 + 0))) = v, fun ρ w v => vI a0.p = v, fun ρ w v => vI a2 = v, fun ρ w v => .pointer (some ((⟨g14, 0, none⟩ : Addr).add (0 + a2.toNat * 9))) = v, fun ρ w v => .agg (cForm.enc (vg zForm x19 a2)).toArray = v, fun ρ w v => .agg (cForm.enc a3).toArray = v, fun ρ w v => .pointer (some ((⟨g1, 0, none⟩ : Addr).add (0 + 0))) = v, fun ρ w v => vI a0.p = v, fun ρ w v => vI (w64 (a0.p - 1)) = v, fun ρ w v => .agg (cForm.enc x28).toArray = v] ?_ hw ⟨o1, o2, o3, o4, o13, o14⟩ hf ?_ ?_
  · intro ρ w ρ' w' hE hG
    obtain ⟨o1, o2, o3, o4, o13, o14⟩ := hG
    exact ⟨o1.ext hE, o2.ext hE, o3.ext hE, o4.ext hE, o13.ext hE, o14.ext hE⟩
  · exact LastsL.cons (fun _ _ _ _ _ _ h => h) <| LastsL.cons (fun _ _ _ _ _ _ h => h) <| LastsL.cons (fun _ _ _ _ _ _ h => h) <| LastsL.cons (fun _ _ _ _ _ _ h => h) <| LastsL.cons (fun _ _ _ _ _ _ h => h) <| LastsL.cons (fun _ _ _ _ _ _ h => h) <| LastsL.cons (fun _ _ _ _ _ _ h => h) <| LastsL.cons (fun _ _ _ _ _ _ h => h) <| LastsL.cons (fun _ _ _ _ _ _ h => h) <| LastsL.cons (fun _ _ _ _ _ _ h => h) <| LastsL.cons (fun _ _ _ _ _ _ h => h) <| LastsL.nil
  · refine StepsB.cons ?_ <| StepsB.cons ?_ <| StepsB.cons ?_ <| StepsB.cons ?_ <| StepsB.cons ?_ <| StepsB.cons ?_ <| StepsB.cons ?_ <| StepsB.cons ?_ <| StepsB.cons ?_ <| StepsB.cons ?_ <| StepsB.cons ?_ <| StepsB.nil
    · intro ρ w a hw hG hf hd K hK
      obtain ⟨o1, o2, o3, o4, o13, o14⟩ := hG
      exact dv_ hK hw (wn rfl) (r_move hf rfl) rfl
    · intro ρ w a hw hG hf hd K hK
      obtain ⟨o1, o2, o3, o4, o13, o14⟩ := hG
      exact dv_ hK hw (wn rfl) (r_fa fa28_0 hf rfl) rfl
    · intro ρ w a hw hG hf hd K hK
      obtain ⟨o1, o2, o3, o4, o13, o14⟩ := hG
      obtain ⟨_, hf, rfl⟩ := got (hd 1 (by kernel_rfl)) hf
      exact dv_ hK hw (wn rfl) (r_load_cell ty2 hf rfl (o1.cl.at_ 0 _ rfl)) rfl
    · intro ρ w a hw hG hf hd K hK
      obtain ⟨o1, o2, o3, o4, o13, o14⟩ := hG
      exact dv_ hK hw (wn rfl) (r_move hf rfl) rfl
    · intro ρ w a hw hG hf hd K hK
      obtain ⟨o1, o2, o3, o4, o13, o14⟩ := hG
      obtain ⟨_, hf, rfl⟩ := got (hd 3 (by kernel_rfl)) hf
      exact dv_ hK hw (wn rfl) (r_indexAddr_arr Try.underlying91 sz39 hf rfl rfl hc27.1 hc27.2) rfl
    · intro ρ w a hw hG hf hd K hK
      obtain ⟨o1, o2, o3, o4, o13, o14⟩ := hG
      obtain ⟨_, hf, rfl⟩ := got (hd 4 (by kernel_rfl)) hf
      exact dv_ hK hw (wn rfl) (r_load_agg ty39 hf rfl (o14.cl.lens (Lens.vec zForm cForm a2 hc27.1 hc27.2)) (cForm.len _)) rfl
    · intro ρ w a hw hG hf hd K hK
      obtain ⟨o1, o2, o3, o4, o13, o14⟩ := hG
      exact dv_ hK hw (wn rfl) (r_load_agg ty39 hf rfl o2.cl (cForm.len _)) rfl
    · intro ρ w a hw hG hf hd K hK
      obtain ⟨o1, o2, o3, o4, o13, o14⟩ := hG
      exact dv_ hK hw (wn rfl) (r_fa fa28_0 hf rfl) rfl
    · intro ρ w a hw hG hf hd K hK
      obtain ⟨o1, o2, o3, o4, o13, o14⟩ := hG
      obtain ⟨_, hf, rfl⟩ := got (hd 7 (by kernel_rfl)) hf
      exact dv_ hK hw (wn rfl) (r_load_cell ty2 hf rfl (o1.cl.at_ 0 _ rfl)) rfl
    · intro ρ w a hw hG hf hd K hK
      obtain ⟨o1, o2, o3, o4, o13, o14⟩ := hG
      obtain ⟨_, hf, rfl⟩ := got (hd 8 (by kernel_rfl)) hf
      exact dv_ hK hw (wn rfl) (r_sub hf rfl rfl) rfl
    · intro ρ w a hw hG hf hd K hK
      obtain ⟨o1, o2, o3, o4, o13, o14⟩ := hG
      obtain ⟨_, hf, rfl⟩ := got (hd 2 (by kernel_rfl)) hf
      obtain ⟨_, hf, rfl⟩ := got (hd 5 (by kernel_rfl)) hf
      obtain ⟨_, hf, rfl⟩ := got (hd 6 (by kernel_rfl)) hf
      obtain ⟨_, hf, rfl⟩ := got (hd 9 (by kernel_rfl)) hf
      refine dc_ hK hw (wn rfl) (r_fn en77 hf rfl) (impl_sum_ok  hx29) fun v w' hΦ => ?_
      obtain ⟨hb, hΦ⟩ := hΦ
      obtain rfl := hΦ
      have hE := Ext.new (ρ := ρ) 17 hb
      exact ⟨_, hw.new 17 hb, hE, rfl⟩
  intro ρ w a hw hG hf hd
  obtain ⟨o1, o2, o3, o4, o13, o14⟩ := hG
  obtain ⟨_, hf, rfl⟩ := got (hd 0 (by decide)) hf
  obtain ⟨_, hf, rfl⟩ := got (hd 10 (by decide)) hf
  refine s_ hf (r_indexAddr_arr Try.underlying91 sz39 hf rfl rfl hc27.1 hc27.2) fun a hf => ?_
  refine sk_ hf (r_store_l (b := x28) hw o14 (by decide) (Lens.vec zForm cForm a2 hc27.1 hc27.2) (by simp only [Nat.zero_add] <;> rfl) ty39 hf rfl rfl rfl) fun a w hf hΦ => ?_
  obtain ⟨hw, hA, o14⟩ := hΦ
  replace o1 := o1.adv hA (by decide)
  replace o2 := o2.adv hA (by decide)
  replace o3 := o3.adv hA (by decide)
  replace o4 := o4.adv hA (by decide)
  replace o13 := o13.adv hA (by decide)
  refine c_nt <| c_seq <| c_region ?_
  refine s_ hf (r_fa fa28_4 hf rfl) fun a hf => ?_
  refine s_ hf (r_load_cell ty26 hf rfl (o1.cl.at_ 4 _ rfl)) fun a hf => ?_
  obtain ⟨x30, hx31, hF⟩ := of_bind hF
  refine st_fn 18 hw hf rfl rfl (by decide) (r_fn en76 hf rfl) (slices_Clone_76_ok (h0.now hw) hx31) fun a v w ρ hf hw hE hN hΦ => ?_
  obtain ⟨u32, rfl, hr33⟩ := hΦ
  replace o1 := o1.ext hE
  replace o2 := o2.ext hE
  replace o3 := o3.ext hE
  replace o4 := o4.ext hE
  replace o13 := o13.ext hE
  replace o14 := o14.ext hE
  have o18 := hN hr33
  refine s_ hf (r_assign hf rfl) fun a hf => ?_
  refine c_nt <| c_seq <| c_region ?_
  refine s_ hf (r_move hf rfl) fun a hf => ?_
  refine s_ hf (r_move hf rfl) fun a hf => ?_
  refine s_ hf (r_load_agg ty91 hf rfl o13.cl (cForms.len _)) fun a hf => ?_
  obtain ⟨x34, hx35, hF⟩ := of_bind hF
  refine st_fn 19 hw hf rfl rfl (by decide) (r_fn en88 hf rfl) (impl_productOf_ok  hx35) fun a v w ρ hf hw hE hN hΦ => ?_
  obtain rfl := hΦ
  replace o1 := o1.ext hE
  replace o2 := o2.ext hE
  replace o3 := o3.ext hE
  replace o4 := o4.ext hE
  replace o13 := o13.ext hE
  replace o14 := o14.ext hE
  replace o18 := o18.ext hE
  obtain ⟨hc36, hF⟩ := of_guard hF
  obtain ⟨ad37, hl37⟩ := Ow.ce (d := cProd) o18 zProd hc36.1 hc36.2
  refine s_ hf (r_idx Try.underlying26 sz78 hf rfl hl37.at_ rfl hc36.1 hc36.2) fun a hf => ?_
  refine sk_ hf (r_store_ec (b := x34) zProd hw (by decide) o18 hc36.1 hc36.2 (Lens.id _) hl37.at_ ty78 (by first | rfl | exact Nat.add_assoc _ _ _ | (simp only [Nat.add_assoc]; rfl)) hf rfl rfl rfl) fun a w hf hΦ => ?_
  obtain ⟨hw, hA, o18⟩ := hΦ
  replace o1 := o1.adv hA (by decide)
  replace o2 := o2.adv hA (by decide)
  replace o3 := o3.adv hA (by decide)
  replace o4 := o4.adv hA (by decide)
  replace o13 := o13.adv hA (by decide)
  replace o14 := o14.adv hA (by decide)
  refine c_nt <| c_seq ?_
  obtain ⟨x38, hx39, hF⟩ := of_bind hF
  obtain ⟨hc40, hF⟩ := of_guard hF
  replace hf : Fr 99 a [(4, .pointer (some ((⟨g1, 0, none⟩ : Addr).add 0))), (8, .pointer (some ((⟨g3, 0, none⟩ : Addr).add 0))), (11, .pointer (some ((⟨g14, 0, none⟩ : Addr).add 0))), (12, u32)] := hf.sub ⟨rfl, rfl, rfl, rfl, trivial⟩
  refine c_stage 6 [5] mixed (by kernel_rfl) (by kernel_rfl) (fun c ρ w => Va ρ w 1 g1 28 ([vI a0.p, vI a0.n, vI a0.m, vI a0.k, va0]) ∧ Va ρ w 3 g3 28 ([vI 0, vI 0, vI 0, vI 0, (.slice none 0 0)]) ∧ O78 ρ w w0 4 (.slice none 0 0) ([] : List Prod) ∧ Va ρ w 14 g14 91 (cForms.enc (vs x19 a2 x28)) ∧ (c ≤ 0 → O78 ρ w w0 18 u32 (x30.set a1.toNat x34))) ?_ [fun c ρ w v => .agg ([vI a0.p, vI a0.n, vI a0.m, vI a0.k, va0]).toArray = v, fun c ρ w v => u32 = v, fun c ρ w v => .agg (cForms.enc (vs x19 a2 x28)).toArray = v, fun c ρ w v => .agg (cProd.enc x38).toArray = v, fun c ρ w v => ∃ v22, v22 = v ∧ O78 ρ w w0 22 v22 ([x38]), fun c ρ w v => ∃ va41, va41 = v ∧ O78 ρ w w0 18 va41 ((x30.set a1.toNat x34) ++ [x38])] ?_ hw ⟨o1, o3, o4, o14, (fun _ => o18)⟩ hf ?_ ?_
  · intro c ρ w ρ' w' hE hG
    obtain ⟨o1, o3, o4, o14, o18x⟩ := hG
    exact ⟨o1.ext hE, o3.ext hE, o4.ext hE, o14.ext hE, (fun h => (o18x h).ext hE)⟩
  · exact LastsS.cons (fun _ _ _ _ _ _ _ h => h) <| LastsS.cons (fun _ _ _ _ _ _ _ h => h) <| LastsS.cons (fun _ _ _ _ _ _ _ h => h) <| LastsS.cons (fun _ _ _ _ _ _ _ h => h) <| LastsS.cons (fun c _ _ _ _ _ hE h => by obtain ⟨v22, h, o22⟩ := h; exact ⟨_, h, o22.ext hE⟩) <| LastsS.cons (fun c _ _ _ _ _ hE h => by obtain ⟨va41, h, o18⟩ := h; exact ⟨_, h, o18.ext hE⟩) <| LastsS.nil
  · refine StepsS.float rfl ?_ <| StepsS.float rfl ?_ <| StepsS.float rfl ?_ <| StepsS.float rfl ?_ <| StepsS.float rfl ?_ <| StepsS.main 0 rfl rfl ?_ <| StepsS.nil
    · intro c ρ w a hs hw hG hf hd K hK
      obtain ⟨o1, o3, o4, o14, o18x⟩ := hG
      exact dv_ hK hw (wn rfl) (r_load_agg ty28 hf rfl o1.cl rfl) rfl
    · intro c ρ w a hs hw hG hf hd K hK
      obtain ⟨o1, o3, o4, o14, o18x⟩ := hG
      have o18 := o18x (hs 0 (by decide) (by kernel_rfl))
      exact dv_ hK hw (wn rfl) (r_move hf rfl) rfl
    · intro c ρ w a hs hw hG hf hd K hK
      obtain ⟨o1, o3, o4, o14, o18x⟩ := hG
      have o18 := o18x (hs 0 (by decide) (by kernel_rfl))
      exact dv_ hK hw (wn rfl) (r_load_agg ty91 hf rfl o14.cl (cForms.len _)) rfl
    · intro c ρ w a hs hw hG hf hd K hK
      obtain ⟨o1, o3, o4, o14, o18x⟩ := hG
      have o18 := o18x (hs 0 (by decide) (by kernel_rfl))
      obtain ⟨_, ht2, rfl⟩ := hd 2 (by kernel_rfl) (by kernel_rfl)
      replace hf := hf.more ht2
      refine dc_ hK hw (wn rfl) (r_fn en88 hf rfl) (impl_productOf_ok  hx39) fun v w' hΦ => ?_
      obtain ⟨hb, hΦ⟩ := hΦ
      obtain rfl := hΦ
      have hE := Ext.new (ρ := ρ) 21 hb
      exact ⟨_, hw.new 21 hb, hE, rfl⟩
    · intro c ρ w a hs hw hG hf hd K hK
      obtain ⟨o1, o3, o4, o14, o18x⟩ := hG
      have o18 := o18x (hs 0 (by decide) (by kernel_rfl))
      obtain ⟨_, ht3, rfl⟩ := hd 3 (by kernel_rfl) (by kernel_rfl)
      replace hf := hf.more ht3
      refine dx_ hK hw (wn rfl) (r_lit (d := cProd) (xs := ([x38] : List Prod)) (vs := [.agg (cProd.enc x38).toArray]) 22 Try.underlying26 el78 (Nat.le_of_ble_eq_true rfl) (Nat.le_of_ble_eq_true rfl) hw hf rfl rfl rfl) fun v22 w' hΦ => ?_
      obtain ⟨ρ, hw, hE, o22⟩ := hΦ
      exact ⟨_, hw, hE, ex_ <| an_ rfl <| o22⟩
    · intro ρ w a S hw hG hf hS hdep hSi K hK
      obtain ⟨o1, o3, o4, o14, o18x⟩ := hG
      have hfL := hf
      have o18 := o18x (by decide)
      obtain ⟨_, ht1, rfl⟩ := hS 1 (by decide) (hdep 1 (by kernel_rfl)) (by kernel_rfl)
      replace hf := hf.more ht1
      obtain ⟨_, ht4, ⟨v22, rfl, o22⟩⟩ := hS 4 (by decide) (hdep 4 (by kernel_rfl)) (by kernel_rfl)
      replace hf := hf.more ht4
      refine m_val (ms := [5]) (Γ := fun c ρ w => Va ρ w 1 g1 28 ([vI a0.p, vI a0.n, vI a0.m, vI a0.k, va0]) ∧ Va ρ w 3 g3 28 ([vI 0, vI 0, vI 0, vI 0, (.slice none 0 0)]) ∧ O78 ρ w w0 4 (.slice none 0 0) ([] : List Prod) ∧ Va ρ w 14 g14 91 (cForms.enc (vs x19 a2 x28)) ∧ (c ≤ 0 → O78 ρ w w0 18 u32 (x30.set a1.toNat x34))) (Rl := [fun c ρ w v => .agg ([vI a0.p, vI a0.n, vI a0.m, vI a0.k, va0]).toArray = v, fun c ρ w v => u32 = v, fun c ρ w v => .agg (cForms.enc (vs x19 a2 x28)).toArray = v, fun c ρ w v => .agg (cProd.enc x38).toArray = v, fun c ρ w v => ∃ v22, v22 = v ∧ O78 ρ w w0 22 v22 ([x38]), fun c ρ w v => ∃ va41, va41 = v ∧ O78 ρ w w0 18 va41 ((x30.set a1.toNat x34) ++ [x38])]) hfL hS (by decide) rfl (by kernel_rfl) (by kernel_rfl) (wn rfl) rfl (r_append Try.underlying26 el78 hw (by decide) o18 o22.ro hc40 hf rfl rfl) (fun va41 w' hΦ => ?_) hK
      obtain ⟨ρ, hw, hA, o18⟩ := hΦ
      replace o1 := o1.adv hA (by decide)
      replace o3 := o3.adv hA (by decide)
      replace o4 := o4.adv hA (by decide)
      replace o14 := o14.adv hA (by decide)
      replace o22 := o22.adv hA (by decide)
      refine ⟨_, hw, ⟨o1, o3, o4, o14, (fun h => absurd h (by decide))⟩, ?_, ?_⟩
      · exact PassL.cons (fun h => h) <| PassL.cons (fun h => h) <| PassL.cons (fun h => h) <| PassL.cons (fun h => h) <| PassL.cons (fun h => by obtain ⟨_, ht, v22, h, o22⟩ := h; exact ⟨_, ht, _, h, o22.adv hA (by decide)⟩) <| PassL.here <| PassL.nil
      · exact ⟨_, rfl, o18⟩
  intro ρ w a hw hG hf hd
  obtain ⟨o1, o3, o4, o14, o18x⟩ := hG
  obtain ⟨_, hf, rfl⟩ := got (hd 0 (by decide) (by kernel_rfl)) hf
  obtain ⟨_, hf, ⟨va41, rfl, o18⟩⟩ := got (hd 5 (by decide) (by kernel_rfl)) hf
  obtain ⟨x42, hx43, hF⟩ := of_bind hF
  refine st_mfn hf rfl rfl (by decide) (r_fn en78 hf rfl) (impl_with_ok (a0 := a0) (by decide) hw h0 o18 hx43) fun a v w ρ hf hw hA hΦ => ?_
  obtain ⟨u44, rfl, o18⟩ := hΦ
  replace o1 := o1.adv hA (by decide)
  replace o3 := o3.adv hA (by decide)
  replace o4 := o4.adv hA (by decide)
  replace o14 := o14.adv hA (by decide)
  refine sk_ hf (r_store_w (cs' := [vI x42.p, vI x42.n, vI x42.m, vI x42.k, u44]) hw o3 (by decide) ty28 rfl rfl (one_sch o18.ro.one) hf rfl rfl rfl) fun a w hf hΦ => ?_
  obtain ⟨hw, hA, o3⟩ := hΦ
  replace o1 := o1.adv hA (by decide)
  replace o4 := o4.adv hA (by decide)
  replace o14 := o14.adv hA (by decide)
  replace o18 := o18.adv hA (by decide)
  refine s_ hf (r_assign hf rfl) fun a hf => ?_
  refine c_nt <| c_retc ?_
  obtain rfl := Option.some.inj hF
  refine c_ret hf (res_ct Try.results26 ty28 hf rfl o3.cl rfl rfl) ?_
  exact ⟨_, rfl, hw.below, ⟨_, rfl, o18.out⟩⟩
/-! f135 -/
noncomputable def spec_l01Inverse_l1 (a0 : Int) (a1 : Int) (s2 : Int) : Option (LR Int Int) :=
  if (decide (s2 < a0)) = true then ((spec_l01Mod a0 a1).bind fun x4 => if a0 ≠ 0 then (if (decide (((w64 (s2 * x4)).tmod a0) = 1)) = true then (some (.ret s2)) else (some (.next (w64 (s2 + 1))))) else none) else (some (.stop s2))
noncomputable def spec_l01Inverse (a0 : Int) (a1 : Int) : Option Int :=
  (iter (fun s => spec_l01Inverse_l1 a0 a1 s) 1).bind fun o => match o with | .stop s2 => (some (0)) | .ret r => some r | .next _ => none
theorem spec_l01Inverse_ok {w0 : World} {a0 : Int} {a1 : Int}   {r : Int} (hF : spec_l01Inverse a0 a1 = some r) :
    Calls Try.prog 135 [vI a0, vI a1].toArray w0 fun e w => ∃ v, e = .returned v ∧ Below w0.heap.size w0 w ∧ .int .i64 r = v := by
  refine calls_of (k := 20) Try.func135 rfl rfl (Nat.le_of_ble_eq_true rfl) fun a hf => ?_
  replace hf : Fr 20 a [(0, vI a0), (1, vI a1)] := hf
  refine c_start fun w ρ hw => ?_
  unfold spec_l01Inverse at hF
  refine c_seq <| c_region ?_
  refine s_ hf (r_assign hf rfl) fun a hf => ?_
  refine c_nt <| c_seq <| c_seq <| c_region ?_
  refine s_ hf (r_assign hf rfl) fun a hf => ?_
  refine c_nt ?_
  obtain ⟨ol1, ho1, hG1⟩ := of_bind hF
  clear hF
  refine c_block (c_loop (id := 0) (fun s => spec_l01Inverse_l1 a0 a1 s) (fun (s2 : Int) a w => ∃ ρ, Wd w0 ρ w ∧ Fr 20 a [(0, vI a0), (1, vI a1), (5, vI s2)]) (fun (s2 : Int) a w => ∃ ρ, Wd w0 ρ w ∧ Fr 20 a []) ho1 ⟨_, hw, hf.sub ⟨rfl, rfl, rfl, trivial⟩⟩ ?_ ?_)
  · rintro s2 lr a w ⟨ρ, hw, hf⟩ hF
    replace hF : spec_l01Inverse_l1 a0 a1 s2 = some lr := hF
    unfold spec_l01Inverse_l1 at hF
    refine c_seq <| c_seq <| c_region ?_
    refine s_ hf (r_move hf rfl) fun a hf => ?_
    refine s_ hf (r_move hf rfl) fun a hf => ?_
    refine s_ hf (r_lss hf rfl rfl) fun a hf => ?_
    refine c_nt ?_
    rcases of_ite hF with ⟨hb3, hF⟩ | ⟨hb3, hF⟩
    rotate_left
    · refine c_iff hf rfl hb3 <| c_exit <| x_then ?_
      obtain rfl := Option.some.inj hF
      exact Rnd.stops ⟨_, hw, hf.sub trivial⟩
    refine c_ift hf rfl hb3 <| c_skip <| n_then <| c_seq <| c_block <| c_seq <| c_region ?_
    refine s_ hf (r_move hf rfl) fun a hf => ?_
    refine s_ hf (r_move hf rfl) fun a hf => ?_
    refine s_ hf (r_move hf rfl) fun a hf => ?_
    obtain ⟨x4, hx5, hF⟩ := of_bind hF
    refine st_fn 1 hw hf rfl rfl (by decide) (r_fn en129 hf rfl) (spec_l01Mod_ok  hx5) fun a v w ρ hf hw hE hN hΦ => ?_
    obtain rfl := hΦ
    refine s_ hf (r_mul hf rfl rfl) fun a hf => ?_
    refine s_ hf (r_move hf rfl) fun a hf => ?_
    obtain ⟨hc6, hF⟩ := of_guard hF
    refine s_ hf (r_rem hf rfl rfl hc6) fun a hf => ?_
    refine s_ hf (r_eql hf rfl rfl) fun a hf => ?_
    refine c_nt ?_
    rcases of_ite hF with ⟨hb7, hF⟩ | ⟨hb7, hF⟩
    rotate_left
    · refine c_iff hf rfl hb7 <| c_skip <| n_block <| n_then <| c_region ?_
      refine s_ hf (r_move hf rfl) fun a hf => ?_
      refine s_ hf (r_add hf rfl rfl) fun a hf => ?_
      refine s_ hf (r_assign hf rfl) fun a hf => ?_
      refine c_nil ?_
      obtain rfl := Option.some.inj hF
      exact Rnd.goes ⟨_, hw, hf.sub ⟨rfl, rfl, rfl, trivial⟩⟩
    refine c_ift hf rfl hb7 <| c_seq <| c_region ?_
    refine s_ hf (r_move hf rfl) fun a hf => ?_
    refine s_ hf (r_assign hf rfl) fun a hf => ?_
    refine c_nt <| c_retc ?_
    obtain rfl := Option.some.inj hF
    refine r_block <| r_then ?_
    refine Rnd.rets fun ho => ?_
    subst ho
    have hF := hG1
    dsimp only at hF
    obtain rfl := Option.some.inj hF
    refine r_block <| r_then <| c_ret hf (res_tmp Try.results135 hf rfl) ?_
    exact ⟨_, rfl, hw.below, rfl⟩
  rintro s2 a w hs ⟨ρ, hw, hf⟩
  subst hs
  have hF := hG1
  dsimp only at hF
  refine x_block <| n_then <| c_seq <| c_region ?_
  refine s_ hf (r_assign hf rfl) fun a hf => ?_
  refine c_nt <| c_retc ?_
  obtain rfl := Option.some.inj hF
  refine c_ret hf (res_tmp Try.results135 hf rfl) ?_
  exact ⟨_, rfl, hw.below, rfl⟩
/-! f143 -/
noncomputable def impl_inverse_l1 (a0 : Int) (a1 : Int) (s2 : Int) : Option (LR Int Int) :=
  if a0 ≠ 0 then (if (decide (((w64 (s2 * a1)).tmod a0) = 1)) = true then (some (.ret s2)) else (some (.next (w64 (s2 + 1))))) else none
noncomputable def impl_inverse (a0 : Int) (a1 : Int) : Option Int :=
  (iter (fun s => impl_inverse_l1 a0 a1 s) 1).bind fun o => match o with | .stop _ => (none) | .ret r => some r | .next _ => none
theorem impl_inverse_ok {w0 : World} {a0 : Int} {a1 : Int}   {r : Int} (hF : impl_inverse a0 a1 = some r) :
    Calls Try.prog 143 [vI a0, vI a1].toArray w0 fun e w => ∃ v, e = .returned v ∧ Below w0.heap.size w0 w ∧ .int .i64 r = v := by
  refine calls_of (k := 15) Try.func143 rfl rfl (Nat.le_of_ble_eq_true rfl) fun a hf => ?_
  replace hf : Fr 15 a [(0, vI a0), (1, vI a1)] := hf
  refine c_start fun w ρ hw => ?_
  unfold impl_inverse at hF
  refine c_seq <| c_region ?_
  refine s_ hf (r_assign hf rfl) fun a hf => ?_
  refine c_nt <| c_seq <| c_region ?_
  refine s_ hf (r_assign hf rfl) fun a hf => ?_
  refine c_nt ?_
  obtain ⟨ol1, ho1, hG1⟩ := of_bind hF
  clear hF
  refine c_block (c_loop (id := 0) (fun s => impl_inverse_l1 a0 a1 s) (fun (s2 : Int) a w => ∃ ρ, Wd w0 ρ w ∧ Fr 15 a [(0, vI a0), (1, vI a1), (5, vI s2)]) (fun (s2 : Int) a w => ∃ ρ, Wd w0 ρ w ∧ Fr 15 a []) ho1 ⟨_, hw, hf.sub ⟨rfl, rfl, rfl, trivial⟩⟩ ?_ ?_)
  · rintro s2 lr a w ⟨ρ, hw, hf⟩ hF
    replace hF : impl_inverse_l1 a0 a1 s2 = some lr := hF
    unfold impl_inverse_l1 at hF
    refine c_seq <| c_block <| c_seq <| c_region ?_
    refine s_ hf (r_move hf rfl) fun a hf => ?_
    refine s_ hf (r_move hf rfl) fun a hf => ?_
    refine s_ hf (r_mul hf rfl rfl) fun a hf => ?_
    refine s_ hf (r_move hf rfl) fun a hf => ?_
    obtain ⟨hc3, hF⟩ := of_guard hF
    refine s_ hf (r_rem hf rfl rfl hc3) fun a hf => ?_
    refine s_ hf (r_eql hf rfl rfl) fun a hf => ?_
    refine c_nt ?_
    rcases of_ite hF with ⟨hb4, hF⟩ | ⟨hb4, hF⟩
    rotate_left
    · refine c_iff hf rfl hb4 <| c_skip <| n_block <| n_then <| c_region ?_
      refine s_ hf (r_move hf rfl) fun a hf => ?_
      refine s_ hf (r_add hf rfl rfl) fun a hf => ?_
      refine s_ hf (r_assign hf rfl) fun a hf => ?_
      refine c_nil ?_
      obtain rfl := Option.some.inj hF
      exact Rnd.goes ⟨_, hw, hf.sub ⟨rfl, rfl, rfl, trivial⟩⟩
    refine c_ift hf rfl hb4 <| c_seq <| c_region ?_
    refine s_ hf (r_move hf rfl) fun a hf => ?_
    refine s_ hf (r_assign hf rfl) fun a hf => ?_
    refine c_nt <| c_retc ?_
    obtain rfl := Option.some.inj hF
    refine r_block <| r_then ?_
    refine Rnd.rets fun ho => ?_
    subst ho
    have hF := hG1
    dsimp only at hF
    obtain rfl := Option.some.inj hF
    refine r_block <| c_ret hf (res_tmp Try.results143 hf rfl) ?_
    exact ⟨_, rfl, hw.below, rfl⟩
  rintro s a w hs _
  subst hs
  cases hG1
/-! f168 -/
noncomputable def impl_first_l1 (a0 : Form) (s2 : Int) : Option (LR Int Int) :=
  if (decide (s2 < 9)) = true then (if 0 ≤ s2 ∧ s2 < 9 then (if (decide (((vg 0 a0 s2).toNat : Int) ≠ 0)) = true then (some (.ret ((vg 0 a0 s2).toNat : Int))) else (some (.next (w64 (s2 + 1))))) else none) else (some (.stop s2))
noncomputable def impl_first (a0 : Form) : Option Int :=
  (iter (fun s => impl_first_l1 a0 s) 0).bind fun o => match o with | .stop s2 => (some (0)) | .ret r => some r | .next _ => none
theorem impl_first_ok {w0 : World} {a0 : Form}   {r : Int} (hF : impl_first a0 = some r) :
    Calls Try.prog 168 [.agg (cForm.enc a0).toArray].toArray w0 fun e w => ∃ v, e = .returned v ∧ Below w0.heap.size w0 w ∧ .int .i64 r = v := by
  refine calls_of (k := 14) Try.func168 rfl rfl (Nat.le_of_ble_eq_true rfl) fun a hf => ?_
  replace hf : Fr 14 a [(0, .agg (cForm.enc a0).toArray)] := hf
  refine c_start fun w ρ hw => ?_
  unfold impl_first at hF
  refine c_seq <| c_region ?_
  refine sx_ hf (r_box (cs := cForm.enc a0) 1 hw hf rfl rfl) fun a v w hf hΦ => ?_
  obtain ⟨g1, ρ, rfl, hw, hE, o1⟩ := hΦ
  refine s_ hf (r_assign hf rfl) fun a hf => ?_
  refine c_nt <| c_seq <| c_seq <| c_region ?_
  refine s_ hf (r_load_agg ty39 hf rfl o1.cl (cForm.len _)) fun a hf => ?_
  refine s_ hf (r_move hf rfl) fun a hf => ?_
  refine c_nt ?_
  obtain ⟨ol1, ho1, hG1⟩ := of_bind hF
  clear hF
  refine c_block (c_loop (id := 0) (fun s => impl_first_l1 a0 s) (fun (s2 : Int) a w => ∃ ρ, Wd w0 ρ w ∧ Fr 14 a [(5, .agg (cForm.enc a0).toArray), (6, vI s2)]) (fun (s2 : Int) a w => ∃ ρ, Wd w0 ρ w ∧ Fr 14 a []) ho1 ⟨_, hw, hf.sub ⟨rfl, rfl, trivial⟩⟩ ?_ ?_)
  · rintro s2 lr a w ⟨ρ, hw, hf⟩ hF
    replace hF : impl_first_l1 a0 s2 = some lr := hF
    unfold impl_first_l1 at hF
    refine c_seq <| c_region ?_
    refine s_ hf (r_lss hf rfl rfl) fun a hf => ?_
    refine c_nt <| c_seq ?_
    rcases of_ite hF with ⟨hb3, hF⟩ | ⟨hb3, hF⟩
    rotate_left
    · refine c_iff hf rfl hb3 <| c_exit <| x_then ?_
      obtain rfl := Option.some.inj hF
      exact Rnd.stops ⟨_, hw, hf.sub trivial⟩
    refine c_ift hf rfl hb3 <| c_skip <| n_then <| c_seq <| c_block <| c_seq <| c_region ?_
    obtain ⟨hc4, hF⟩ := of_guard hF
    refine s_ hf (r_index_lc Try.underlying39 ty5 hf rfl rfl hc4.1 hc4.2 (Lens.vec 0 fU8 s2 hc4.1 hc4.2) rfl) fun a hf => ?_
    refine s_ hf (r_assign hf rfl) fun a hf => ?_
    refine c_nt <| c_seq <| c_region ?_
    refine s_ hf (r_move hf rfl) fun a hf => ?_
    refine s_ hf (r_neq hf rfl rfl) fun a hf => ?_
    refine c_nt ?_
    rcases of_ite hF with ⟨hb5, hF⟩ | ⟨hb5, hF⟩
    rotate_left
    · refine c_iff hf rfl hb5 <| c_skip <| n_block <| n_then <| c_region ?_
      refine s_ hf (r_add hf rfl rfl) fun a hf => ?_
      refine s_ hf (r_move hf rfl) fun a hf => ?_
      refine c_nil ?_
      obtain rfl := Option.some.inj hF
      exact Rnd.goes ⟨_, hw, hf.sub ⟨rfl, rfl, trivial⟩⟩
    refine c_ift hf rfl hb5 <| c_seq <| c_region ?_
    refine s_ hf (r_move hf rfl) fun a hf => ?_
    refine s_ hf (r_conv_u8_i64 Try.underlying5 Try.underlying2 hf rfl) fun a hf => ?_
    refine s_ hf (r_assign hf rfl) fun a hf => ?_
    refine c_nt <| c_retc ?_
    obtain rfl := Option.some.inj hF
    refine r_block <| r_then ?_
    refine Rnd.rets fun ho => ?_
    subst ho
    have hF := hG1
    dsimp only at hF
    obtain rfl := Option.some.inj hF
    refine r_block <| r_then <| c_ret hf (res_tmp Try.results168 hf rfl) ?_
    exact ⟨_, rfl, hw.below, rfl⟩
  rintro s2 a w hs ⟨ρ, hw, hf⟩
  subst hs
  have hF := hG1
  dsimp only at hF
  refine x_block <| n_then <| c_seq <| c_region ?_
  refine s_ hf (r_assign hf rfl) fun a hf => ?_
  refine c_nt <| c_retc ?_
  obtain rfl := Option.some.inj hF
  refine c_ret hf (res_tmp Try.results168 hf rfl) ?_
  exact ⟨_, rfl, hw.below, rfl⟩
/-! f169 -/
noncomputable def impl_multiple (a0 : Int) (a1 : Form) (a2 : Int) : Option Form :=
  (impl_sum a0 zForm a1 a2).bind fun x1 => some (x1)
theorem impl_multiple_ok {w0 : World} {a0 : Int} {a1 : Form} {a2 : Int}   {r : Form} (hF : impl_multiple a0 a1 a2 = some r) :
    Calls Try.prog 169 [vI a0, .agg (cForm.enc a1).toArray, vI a2].toArray w0 fun e w => ∃ v, e = .returned v ∧ Below w0.heap.size w0 w ∧ .agg (cForm.enc r).toArray = v := by
  refine calls_of (k := 12) Try.func169 rfl rfl (Nat.le_of_ble_eq_true rfl) fun a hf => ?_
  replace hf : Fr 12 a [(0, vI a0), (1, .agg (cForm.enc a1).toArray), (2, vI a2)] := hf
  refine c_start fun w ρ hw => ?_
  unfold impl_multiple at hF
  refine c_seq <| c_region ?_
  refine sx_ hf (r_box (cs := cForm.enc a1) 1 hw hf rfl rfl) fun a v w hf hΦ => ?_
  obtain ⟨g1, ρ, rfl, hw, hE, o1⟩ := hΦ
  refine sx_ hf (r_alloc (cs := cForm.enc zForm) 2 ze39 rfl hw) fun a v w hf hΦ => ?_
  obtain ⟨g2, ρ, rfl, hw, hE, o2⟩ := hΦ
  replace o1 := o1.ext hE
  refine c_nt <| c_seq <| c_region ?_
  refine s_ hf (r_move hf rfl) fun a hf => ?_
  refine s_ hf (r_build_arr (vs := []) (res := (cForm.enc zForm).toArray) Try.underlying39 sz5 ze39 hf rfl rfl rfl) fun a hf => ?_
  refine s_ hf (r_load_agg ty39 hf rfl o1.cl (cForm.len _)) fun a hf => ?_
  refine s_ hf (r_move hf rfl) fun a hf => ?_
  obtain ⟨x1, hx2, hF⟩ := of_bind hF
  refine st_fn 3 hw hf rfl rfl (by decide) (r_fn en77 hf rfl) (impl_sum_ok  hx2) fun a v w ρ hf hw hE hN hΦ => ?_
  obtain rfl := hΦ
  replace o1 := o1.ext hE
  replace o2 := o2.ext hE
  refine sk_ hf (r_store_w (cs' := cForm.enc x1) hw o2 (by decide) ty39 (cForm.len _) (cForm.len _) (cForm.one _) hf rfl rfl rfl) fun a w hf hΦ => ?_
  obtain ⟨hw, hA, o2⟩ := hΦ
  replace o1 := o1.adv hA (by decide)
  refine c_nt <| c_retc ?_
  obtain rfl := Option.some.inj hF
  refine c_ret hf (res_cell Try.results169 ty39 hf rfl o2.cl (cForm.len _)) ?_
  exact ⟨_, rfl, hw.below, rfl⟩
/-! f149 -/
noncomputable def impl_normal (a0 : Int) (a1 : Prod) : Option Prod :=
  (impl_first a1.1).bind fun x1 => (impl_first a1.2.1).bind fun x3 => (impl_inverse a0 x1).bind fun x5 => (impl_multiple a0 a1.1 x5).bind fun x7 => (impl_inverse a0 x3).bind fun x9 => (impl_multiple a0 a1.2.1 x9).bind fun x11 => if a0 ≠ 0 then ((impl_multiple a0 a1.2.2 ((w64 (x1 * x3)).tmod a0)).bind fun x14 => some ((x7, x11, x14))) else none
theorem impl_normal_ok {w0 : World} {a0 : Int} {a1 : Prod}   {r : Prod} (hF : impl_normal a0 a1 = some r) :
    Calls Try.prog 149 [vI a0, .agg (cProd.enc a1).toArray].toArray w0 fun e w => ∃ v, e = .returned v ∧ Below w0.heap.size w0 w ∧ .agg (cProd.enc r).toArray = v := by
  refine calls_of (k := 37) Try.func149 rfl rfl (Nat.le_of_ble_eq_true rfl) fun a hf => ?_
  replace hf : Fr 37 a [(0, vI a0), (1, .agg (cProd.enc a1).toArray)] := hf
  refine c_start fun w ρ hw => ?_
  unfold impl_normal at hF
  refine c_seq <| c_region ?_
  refine sx_ hf (r_box (cs := cProd.enc a1) 1 hw hf rfl rfl) fun a v w hf hΦ => ?_
  obtain ⟨g1, ρ, rfl, hw, hE, o1⟩ := hΦ
  refine sx_ hf (r_alloc (cs := cProd.enc zProd) 2 ze78 rfl hw) fun a v w hf hΦ => ?_
  obtain ⟨g2, ρ, rfl, hw, hE, o2⟩ := hΦ
  replace o1 := o1.ext hE
  refine c_nt <| c_seq ?_
  obtain ⟨x1, hx2, hF⟩ := of_bind hF
  replace hf : Fr 37 a [(0, vI a0), (3, .pointer (some ((⟨g1, 0, none⟩ : Addr).add 0))), (4, .pointer (some ((⟨g2, 0, none⟩ : Addr).add 0)))] := hf.sub ⟨rfl, rfl, rfl, trivial⟩
  refine c_drawL (h := 5) mixed (by kernel_rfl) (by kernel_rfl) (fun ρ w => Va ρ w 1 g1 78 (cProd.enc a1) ∧ Va ρ w 2 g2 78 (cProd.enc zProd)) ?_ [fun ρ w v => .pointer (some ((⟨g1, 0, none⟩ : Addr).add (0 + 0))) = v, fun ρ w v => .agg (cForm.enc a1.1).toArray = v, fun ρ w v => vI x1 = v, fun ρ w v => .pointer (some ((⟨g1, 0, none⟩ : Addr).add (0 + 9))) = v, fun ρ w v => .agg (cForm.enc a1.2.1).toArray = v] ?_ hw ⟨o1, o2⟩ hf ?_ ?_
  · intro ρ w ρ' w' hE hG
    obtain ⟨o1, o2⟩ := hG
    exact ⟨o1.ext hE, o2.ext hE⟩
  · exact LastsL.cons (fun _ _ _ _ _ _ h => h) <| LastsL.cons (fun _ _ _ _ _ _ h => h) <| LastsL.cons (fun _ _ _ _ _ _ h => h) <| LastsL.cons (fun _ _ _ _ _ _ h => h) <| LastsL.cons (fun _ _ _ _ _ _ h => h) <| LastsL.nil
  · refine StepsB.cons ?_ <| StepsB.cons ?_ <| StepsB.cons ?_ <| StepsB.cons ?_ <| StepsB.cons ?_ <| StepsB.nil
    · intro ρ w a hw hG hf hd K hK
      obtain ⟨o1, o2⟩ := hG
      exact dv_ hK hw (wn rfl) (r_fa fa78_0 hf rfl) rfl
    · intro ρ w a hw hG hf hd K hK
      obtain ⟨o1, o2⟩ := hG
      obtain ⟨_, hf, rfl⟩ := got (hd 0 (by kernel_rfl)) hf
      exact dv_ hK hw (wn rfl) (r_load_agg ty39 hf rfl (o1.cl.lens lProd_0) (cForm.len _)) rfl
    · intro ρ w a hw hG hf hd K hK
      obtain ⟨o1, o2⟩ := hG
      obtain ⟨_, hf, rfl⟩ := got (hd 1 (by kernel_rfl)) hf
      refine dc_ hK hw (wn rfl) (r_fn en168 hf rfl) (impl_first_ok  hx2) fun v w' hΦ => ?_
      obtain ⟨hb, hΦ⟩ := hΦ
      obtain rfl := hΦ
      have hE := Ext.new (ρ := ρ) 3 hb
      exact ⟨_, hw.new 3 hb, hE, rfl⟩
    · intro ρ w a hw hG hf hd K hK
      obtain ⟨o1, o2⟩ := hG
      exact dv_ hK hw (wn rfl) (r_fa fa78_1 hf rfl) rfl
    · intro ρ w a hw hG hf hd K hK
      obtain ⟨o1, o2⟩ := hG
      obtain ⟨_, hf, rfl⟩ := got (hd 3 (by kernel_rfl)) hf
      exact dv_ hK hw (wn rfl) (r_load_agg ty39 hf rfl (o1.cl.lens lProd_1) (cForm.len _)) rfl
  intro ρ w a hw hG hf hd
  obtain ⟨o1, o2⟩ := hG
  obtain ⟨_, hf, rfl⟩ := got (hd 2 (by decide)) hf
  obtain ⟨_, hf, rfl⟩ := got (hd 4 (by decide)) hf
  obtain ⟨x3, hx4, hF⟩ := of_bind hF
  refine st_fn 4 hw hf rfl rfl (by decide) (r_fn en168 hf rfl) (impl_first_ok  hx4) fun a v w ρ hf hw hE hN hΦ => ?_
  obtain rfl := hΦ
  replace o1 := o1.ext hE
  replace o2 := o2.ext hE
  refine s_ hf (r_assign hf rfl) fun a hf => ?_
  refine s_ hf (r_assign hf rfl) fun a hf => ?_
  refine c_nt <| c_seq ?_
  obtain ⟨x5, hx6, hF⟩ := of_bind hF
  obtain ⟨x7, hx8, hF⟩ := of_bind hF
  obtain ⟨x9, hx10, hF⟩ := of_bind hF
  obtain ⟨x11, hx12, hF⟩ := of_bind hF
  obtain ⟨hc13, hF⟩ := of_guard hF
  replace hf : Fr 37 a [(0, vI a0), (3, .pointer (some ((⟨g1, 0, none⟩ : Addr).add 0))), (4, .pointer (some ((⟨g2, 0, none⟩ : Addr).add 0))), (5, vI x1), (6, vI x3)] := hf.sub ⟨rfl, rfl, rfl, rfl, rfl, trivial⟩
  refine c_drawL (h := 22) mixed (by kernel_rfl) (by kernel_rfl) (fun ρ w => Va ρ w 1 g1 78 (cProd.enc a1) ∧ Va ρ w 2 g2 78 (cProd.enc zProd)) ?_ [fun ρ w v => vI a0 = v, fun ρ w v => .pointer (some ((⟨g1, 0, none⟩ : Addr).add (0 + 0))) = v, fun ρ w v => .agg (cForm.enc a1.1).toArray = v, fun ρ w v => vI a0 = v, fun ρ w v => vI x1 = v, fun ρ w v => vI x5 = v, fun ρ w v => .agg (cForm.enc x7).toArray = v, fun ρ w v => vI a0 = v, fun ρ w v => .pointer (some ((⟨g1, 0, none⟩ : Addr).add (0 + 9))) = v, fun ρ w v => .agg (cForm.enc a1.2.1).toArray = v, fun ρ w v => vI a0 = v, fun ρ w v => vI x3 = v, fun ρ w v => vI x9 = v, fun ρ w v => .agg (cForm.enc x11).toArray = v, fun ρ w v => vI a0 = v, fun ρ w v => .pointer (some ((⟨g1, 0, none⟩ : Addr).add (0 + 18))) = v, fun ρ w v => .agg (cForm.enc a1.2.2).toArray = v, fun ρ w v => vI x1 = v, fun ρ w v => vI x3 = v, fun ρ w v => vI (w64 (x1 * x3)) = v, fun ρ w v => vI a0 = v, fun ρ w v => vI ((w64 (x1 * x3)).tmod a0) = v] ?_ hw ⟨o1, o2⟩ hf ?_ ?_
  · intro ρ w ρ' w' hE hG
    obtain ⟨o1, o2⟩ := hG
    exact ⟨o1.ext hE, o2.ext hE⟩
  · exact LastsL.cons (fun _ _ _ _ _ _ h => h) <| LastsL.cons (fun _ _ _ _ _ _ h => h) <| LastsL.cons (fun _ _ _ _ _ _ h => h) <| LastsL.cons (fun _ _ _ _ _ _ h => h) <| LastsL.cons (fun _ _ _ _ _ _ h => h) <| LastsL.cons (fun _ _ _ _ _ _ h => h) <| LastsL.cons (fun _ _ _ _ _ _ h => h) <| LastsL.cons (fun _ _ _ _ _ _ h => h) <| LastsL.cons (fun _ _ _ _ _ _ h => h) <| LastsL.cons (fun _ _ _ _ _ _ h => h) <| LastsL.cons (fun _ _ _ _ _ _ h => h) <| LastsL.cons (fun _ _ _ _ _ _ h => h) <| LastsL.cons (fun _ _ _ _ _ _ h => h) <| LastsL.cons (fun _ _ _ _ _ _ h => h) <| LastsL.cons (fun _ _ _ _ _ _ h => h) <| LastsL.cons (fun _ _ _ _ _ _ h => h) <| LastsL.cons (fun _ _ _ _ _ _ h => h) <| LastsL.cons (fun _ _ _ _ _ _ h => h) <| LastsL.cons (fun _ _ _ _ _ _ h => h) <| LastsL.cons (fun _ _ _ _ _ _ h => h) <| LastsL.cons (fun _ _ _ _ _ _ h => h) <| LastsL.cons (fun _ _ _ _ _ _ h => h) <| LastsL.nil
  · refine StepsB.cons ?_ <| StepsB.cons ?_ <| StepsB.cons ?_ <| StepsB.cons ?_ <| StepsB.cons ?_ <| StepsB.cons ?_ <| StepsB.cons ?_ <| StepsB.cons ?_ <| StepsB.cons ?_ <| StepsB.cons ?_ <| StepsB.cons ?_ <| StepsB.cons ?_ <| StepsB.cons ?_ <| StepsB.cons ?_ <| StepsB.cons ?_ <| StepsB.cons ?_ <| StepsB.cons ?_ <| StepsB.cons ?_ <| StepsB.cons ?_ <| StepsB.cons ?_ <| StepsB.cons ?_ <| StepsB.cons ?_ <| StepsB.nil
    · intro ρ w a hw hG hf hd K hK
      obtain ⟨o1, o2⟩ := hG
      exact dv_ hK hw (wn rfl) (r_move hf rfl) rfl
    · intro ρ w a hw hG hf hd K hK
      obtain ⟨o1, o2⟩ := hG
      exact dv_ hK hw (wn rfl) (r_fa fa78_0 hf rfl) rfl
    · intro ρ w a hw hG hf hd K hK
      obtain ⟨o1, o2⟩ := hG
      obtain ⟨_, hf, rfl⟩ := got (hd 1 (by kernel_rfl)) hf
      exact dv_ hK hw (wn rfl) (r_load_agg ty39 hf rfl (o1.cl.lens lProd_0) (cForm.len _)) rfl
    · intro ρ w a hw hG hf hd K hK
      obtain ⟨o1, o2⟩ := hG
      exact dv_ hK hw (wn rfl) (r_move hf rfl) rfl
    · intro ρ w a hw hG hf hd K hK
      obtain ⟨o1, o2⟩ := hG
      exact dv_ hK hw (wn rfl) (r_move hf rfl) rfl
    · intro ρ w a hw hG hf hd K hK
      obtain ⟨o1, o2⟩ := hG
      obtain ⟨_, hf, rfl⟩ := got (hd 3 (by kernel_rfl)) hf
      obtain ⟨_, hf, rfl⟩ := got (hd 4 (by kernel_rfl)) hf
      refine dc_ hK hw (wn rfl) (r_fn en143 hf rfl) (impl_inverse_ok  hx6) fun v w' hΦ => ?_
      obtain ⟨hb, hΦ⟩ := hΦ
      obtain rfl := hΦ
      have hE := Ext.new (ρ := ρ) 5 hb
      exact ⟨_, hw.new 5 hb, hE, rfl⟩
    · intro ρ w a hw hG hf hd K hK
      obtain ⟨o1, o2⟩ := hG
      obtain ⟨_, hf, rfl⟩ := got (hd 0 (by kernel_rfl)) hf
      obtain ⟨_, hf, rfl⟩ := got (hd 2 (by kernel_rfl)) hf
      obtain ⟨_, hf, rfl⟩ := got (hd 5 (by kernel_rfl)) hf
      refine dc_ hK hw (wn rfl) (r_fn en169 hf rfl) (impl_multiple_ok  hx8) fun v w' hΦ => ?_
      obtain ⟨hb, hΦ⟩ := hΦ
      obtain rfl := hΦ
      have hE := Ext.new (ρ := ρ) 6 hb
      exact ⟨_, hw.new 6 hb, hE, rfl⟩
    · intro ρ w a hw hG hf hd K hK
      obtain ⟨o1, o2⟩ := hG
      exact dv_ hK hw (wn rfl) (r_move hf rfl) rfl
    · intro ρ w a hw hG hf hd K hK
      obtain ⟨o1, o2⟩ := hG
      exact dv_ hK hw (wn rfl) (r_fa fa78_1 hf rfl) rfl
    · intro ρ w a hw hG hf hd K hK
      obtain ⟨o1, o2⟩ := hG
      obtain ⟨_, hf, rfl⟩ := got (hd 8 (by kernel_rfl)) hf
      exact dv_ hK hw (wn rfl) (r_load_agg ty39 hf rfl (o1.cl.lens lProd_1) (cForm.len _)) rfl
    · intro ρ w a hw hG hf hd K hK
      obtain ⟨o1, o2⟩ := hG
      exact dv_ hK hw (wn rfl) (r_move hf rfl) rfl
    · intro ρ w a hw hG hf hd K hK
      obtain ⟨o1, o2⟩ := hG
      exact dv_ hK hw (wn rfl) (r_move hf rfl) rfl
    · intro ρ w a hw hG hf hd K hK
      obtain ⟨o1, o2⟩ := hG
      obtain ⟨_, hf, rfl⟩ := got (hd 10 (by kernel_rfl)) hf
      obtain ⟨_, hf, rfl⟩ := got (hd 11 (by kernel_rfl)) hf
      refine dc_ hK hw (wn rfl) (r_fn en143 hf rfl) (impl_inverse_ok  hx10) fun v w' hΦ => ?_
      obtain ⟨hb, hΦ⟩ := hΦ
      obtain rfl := hΦ
      have hE := Ext.new (ρ := ρ) 7 hb
      exact ⟨_, hw.new 7 hb, hE, rfl⟩
    · intro ρ w a hw hG hf hd K hK
      obtain ⟨o1, o2⟩ := hG
      obtain ⟨_, hf, rfl⟩ := got (hd 7 (by kernel_rfl)) hf
      obtain ⟨_, hf, rfl⟩ := got (hd 9 (by kernel_rfl)) hf
      obtain ⟨_, hf, rfl⟩ := got (hd 12 (by kernel_rfl)) hf
      refine dc_ hK hw (wn rfl) (r_fn en169 hf rfl) (impl_multiple_ok  hx12) fun v w' hΦ => ?_
      obtain ⟨hb, hΦ⟩ := hΦ
      obtain rfl := hΦ
      have hE := Ext.new (ρ := ρ) 8 hb
      exact ⟨_, hw.new 8 hb, hE, rfl⟩
    · intro ρ w a hw hG hf hd K hK
      obtain ⟨o1, o2⟩ := hG
      exact dv_ hK hw (wn rfl) (r_move hf rfl) rfl
    · intro ρ w a hw hG hf hd K hK
      obtain ⟨o1, o2⟩ := hG
      exact dv_ hK hw (wn rfl) (r_fa fa78_2 hf rfl) rfl
    · intro ρ w a hw hG hf hd K hK
      obtain ⟨o1, o2⟩ := hG
      obtain ⟨_, hf, rfl⟩ := got (hd 15 (by kernel_rfl)) hf
      exact dv_ hK hw (wn rfl) (r_load_agg ty39 hf rfl (o1.cl.lens lProd_2) (cForm.len _)) rfl
    · intro ρ w a hw hG hf hd K hK
      obtain ⟨o1, o2⟩ := hG
      exact dv_ hK hw (wn rfl) (r_move hf rfl) rfl
    · intro ρ w a hw hG hf hd K hK
      obtain ⟨o1, o2⟩ := hG
      exact dv_ hK hw (wn rfl) (r_move hf rfl) rfl
    · intro ρ w a hw hG hf hd K hK
      obtain ⟨o1, o2⟩ := hG
      obtain ⟨_, hf, rfl⟩ := got (hd 17 (by kernel_rfl)) hf
      obtain ⟨_, hf, rfl⟩ := got (hd 18 (by kernel_rfl)) hf
      exact dv_ hK hw (wn rfl) (r_mul hf rfl rfl) rfl
    · intro ρ w a hw hG hf hd K hK
      obtain ⟨o1, o2⟩ := hG
      exact dv_ hK hw (wn rfl) (r_move hf rfl) rfl
    · intro ρ w a hw hG hf hd K hK
      obtain ⟨o1, o2⟩ := hG
      obtain ⟨_, hf, rfl⟩ := got (hd 19 (by kernel_rfl)) hf
      obtain ⟨_, hf, rfl⟩ := got (hd 20 (by kernel_rfl)) hf
      exact dv_ hK hw (wn rfl) (r_rem hf rfl rfl hc13) rfl
  intro ρ w a hw hG hf hd
  obtain ⟨o1, o2⟩ := hG
  obtain ⟨_, hf, rfl⟩ := got (hd 6 (by decide)) hf
  obtain ⟨_, hf, rfl⟩ := got (hd 13 (by decide)) hf
  obtain ⟨_, hf, rfl⟩ := got (hd 14 (by decide)) hf
  obtain ⟨_, hf, rfl⟩ := got (hd 16 (by decide)) hf
  obtain ⟨_, hf, rfl⟩ := got (hd 21 (by decide)) hf
  obtain ⟨x14, hx15, hF⟩ := of_bind hF
  refine st_fn 9 hw hf rfl rfl (by decide) (r_fn en169 hf rfl) (impl_multiple_ok  hx15) fun a v w ρ hf hw hE hN hΦ => ?_
  obtain rfl := hΦ
  replace o1 := o1.ext hE
  replace o2 := o2.ext hE
  refine s_ hf (r_build_struct (pl := [(0, 9), (9, 9), (18, 9)]) (vs := [(0, .agg (cForm.enc x7).toArray), (1, .agg (cForm.enc x11).toArray), (2, .agg (cForm.enc x14).toArray)]) (res := (cProd.enc (x7, x11, x14)).toArray) Try.underlying78 (by kernel_rfl) ze78 hf rfl rfl ((fill_lens (d := cProd) (z := zProd) lProd_0 rfl rfl).trans ((fill_lens (d := cProd) (z := (x7, zProd.2.1, zProd.2.2)) lProd_1 rfl rfl).trans ((fill_lens (d := cProd) (z := (x7, x11, zProd.2.2)) lProd_2 rfl rfl).trans rfl)))) fun a hf => ?_
  refine sk_ hf (r_store_w (cs' := cProd.enc (x7, x11, x14)) hw o2 (by decide) ty78 (cProd.len _) (cProd.len _) (cProd.one _) hf rfl rfl rfl) fun a w hf hΦ => ?_
  obtain ⟨hw, hA, o2⟩ := hΦ
  replace o1 := o1.adv hA (by decide)
  refine c_nt <| c_retc ?_
  obtain rfl := Option.some.inj hF
  refine c_ret hf (res_cell Try.results149 ty78 hf rfl o2.cl (cProd.len _)) ?_
  exact ⟨_, rfl, hw.below, rfl⟩
/-! f177 -/
noncomputable def spec_l03Lead_l1 (a0 : Form) (s2 : Int) : Option (LR Int Int) :=
  if (decide (s2 < 9)) = true then (if 0 ≤ s2 ∧ s2 < 9 then (if (decide (((vg 0 a0 s2).toNat : Int) ≠ 0)) = true then (some (.ret ((vg 0 a0 s2).toNat : Int))) else (some (.next (w64 (s2 + 1))))) else none) else (some (.stop s2))
noncomputable def spec_l03Lead (a0 : Form) : Option Int :=
  (iter (fun s => spec_l03Lead_l1 a0 s) 0).bind fun o => match o with | .stop s2 => (some (0)) | .ret r => some r | .next _ => none
theorem spec_l03Lead_ok {w0 : World} {a0 : Form}   {r : Int} (hF : spec_l03Lead a0 = some r) :
    Calls Try.prog 177 [.agg (cForm.enc a0).toArray].toArray w0 fun e w => ∃ v, e = .returned v ∧ Below w0.heap.size w0 w ∧ .int .i64 r = v := by
  refine calls_of (k := 16) Try.func177 rfl rfl (Nat.le_of_ble_eq_true rfl) fun a hf => ?_
  replace hf : Fr 16 a [(0, .agg (cForm.enc a0).toArray)] := hf
  refine c_start fun w ρ hw => ?_
  unfold spec_l03Lead at hF
  refine c_seq <| c_region ?_
  refine sx_ hf (r_box (cs := cForm.enc a0) 1 hw hf rfl rfl) fun a v w hf hΦ => ?_
  obtain ⟨g1, ρ, rfl, hw, hE, o1⟩ := hΦ
  refine s_ hf (r_assign hf rfl) fun a hf => ?_
  refine c_nt <| c_seq <| c_seq <| c_region ?_
  refine s_ hf (r_assign hf rfl) fun a hf => ?_
  refine c_nt ?_
  obtain ⟨ol1, ho1, hG1⟩ := of_bind hF
  clear hF
  refine c_block (c_loop (id := 0) (fun s => spec_l03Lead_l1 a0 s) (fun (s2 : Int) a w => ∃ ρ, Wd w0 ρ w ∧ Fr 16 a [(1, .pointer (some ((⟨g1, 0, none⟩ : Addr).add 0))), (3, vI s2)] ∧ Va ρ w 1 g1 39 (cForm.enc a0)) (fun (s2 : Int) a w => ∃ ρ, Wd w0 ρ w ∧ Fr 16 a []) ho1 ⟨_, hw, hf.sub ⟨rfl, rfl, trivial⟩, o1⟩ ?_ ?_)
  · rintro s2 lr a w ⟨ρ, hw, hf, o1⟩ hF
    replace hF : spec_l03Lead_l1 a0 s2 = some lr := hF
    unfold spec_l03Lead_l1 at hF
    refine c_seq <| c_seq <| c_region ?_
    refine s_ hf (r_move hf rfl) fun a hf => ?_
    refine s_ hf (r_lss hf rfl rfl) fun a hf => ?_
    refine c_nt ?_
    rcases of_ite hF with ⟨hb3, hF⟩ | ⟨hb3, hF⟩
    rotate_left
    · refine c_iff hf rfl hb3 <| c_exit <| x_then ?_
      obtain rfl := Option.some.inj hF
      exact Rnd.stops ⟨_, hw, hf.sub trivial⟩
    refine c_ift hf rfl hb3 <| c_skip <| n_then <| c_seq <| c_block <| c_seq <| c_region ?_
    refine s_ hf (r_move hf rfl) fun a hf => ?_
    obtain ⟨hc4, hF⟩ := of_guard hF
    refine s_ hf (r_indexAddr_arr Try.underlying39 sz5 hf rfl rfl hc4.1 hc4.2) fun a hf => ?_
    refine s_ hf (r_load_cell ty5 hf rfl (o1.cl.lens (Lens.vec 0 fU8 s2 hc4.1 hc4.2))) fun a hf => ?_
    refine s_ hf (r_neq hf rfl rfl) fun a hf => ?_
    refine c_nt ?_
    rcases of_ite hF with ⟨hb5, hF⟩ | ⟨hb5, hF⟩
    rotate_left
    · refine c_iff hf rfl hb5 <| c_skip <| n_block <| n_then <| c_region ?_
      refine s_ hf (r_move hf rfl) fun a hf => ?_
      refine s_ hf (r_add hf rfl rfl) fun a hf => ?_
      refine s_ hf (r_assign hf rfl) fun a hf => ?_
      refine c_nil ?_
      obtain rfl := Option.some.inj hF
      exact Rnd.goes ⟨_, hw, hf.sub ⟨rfl, rfl, trivial⟩, o1⟩
    refine c_ift hf rfl hb5 <| c_seq <| c_region ?_
    refine s_ hf (r_move hf rfl) fun a hf => ?_
    refine s_ hf (r_indexAddr_arr Try.underlying39 sz5 hf rfl rfl hc4.1 hc4.2) fun a hf => ?_
    refine s_ hf (r_load_cell ty5 hf rfl (o1.cl.lens (Lens.vec 0 fU8 s2 hc4.1 hc4.2))) fun a hf => ?_
    refine s_ hf (r_conv_u8_i64 Try.underlying5 Try.underlying2 hf rfl) fun a hf => ?_
    refine s_ hf (r_assign hf rfl) fun a hf => ?_
    refine c_nt <| c_retc ?_
    obtain rfl := Option.some.inj hF
    refine r_block <| r_then ?_
    refine Rnd.rets fun ho => ?_
    subst ho
    have hF := hG1
    dsimp only at hF
    obtain rfl := Option.some.inj hF
    refine r_block <| r_then <| c_ret hf (res_tmp Try.results177 hf rfl) ?_
    exact ⟨_, rfl, hw.below, rfl⟩
  rintro s2 a w hs ⟨ρ, hw, hf⟩
  subst hs
  have hF := hG1
  dsimp only at hF
  refine x_block <| n_then <| c_seq <| c_region ?_
  refine s_ hf (r_assign hf rfl) fun a hf => ?_
  refine c_nt <| c_retc ?_
  obtain rfl := Option.some.inj hF
  refine c_ret hf (res_tmp Try.results177 hf rfl) ?_
  exact ⟨_, rfl, hw.below, rfl⟩
/-! f178 -/
noncomputable def spec_l01Scale (a0 : Int) (a1 : Form) (a2 : Int) : Option Form :=
  (spec_l01Add a0 zForm a1 a2).bind fun x1 => some (x1)
theorem spec_l01Scale_ok {w0 : World} {a0 : Int} {a1 : Form} {a2 : Int}   {r : Form} (hF : spec_l01Scale a0 a1 a2 = some r) :
    Calls Try.prog 178 [vI a0, .agg (cForm.enc a1).toArray, vI a2].toArray w0 fun e w => ∃ v, e = .returned v ∧ Below w0.heap.size w0 w ∧ .agg (cForm.enc r).toArray = v := by
  refine calls_of (k := 12) Try.func178 rfl rfl (Nat.le_of_ble_eq_true rfl) fun a hf => ?_
  replace hf : Fr 12 a [(0, vI a0), (1, .agg (cForm.enc a1).toArray), (2, vI a2)] := hf
  refine c_start fun w ρ hw => ?_
  unfold spec_l01Scale at hF
  refine c_seq <| c_region ?_
  refine sx_ hf (r_box (cs := cForm.enc a1) 1 hw hf rfl rfl) fun a v w hf hΦ => ?_
  obtain ⟨g1, ρ, rfl, hw, hE, o1⟩ := hΦ
  refine sx_ hf (r_alloc (cs := cForm.enc zForm) 2 ze39 rfl hw) fun a v w hf hΦ => ?_
  obtain ⟨g2, ρ, rfl, hw, hE, o2⟩ := hΦ
  replace o1 := o1.ext hE
  refine c_nt <| c_seq <| c_region ?_
  refine s_ hf (r_move hf rfl) fun a hf => ?_
  refine s_ hf (r_build_arr (vs := []) (res := (cForm.enc zForm).toArray) Try.underlying39 sz5 ze39 hf rfl rfl rfl) fun a hf => ?_
  refine s_ hf (r_load_agg ty39 hf rfl o1.cl (cForm.len _)) fun a hf => ?_
  refine s_ hf (r_move hf rfl) fun a hf => ?_
  obtain ⟨x1, hx2, hF⟩ := of_bind hF
  refine st_fn 3 hw hf rfl rfl (by decide) (r_fn en72 hf rfl) (spec_l01Add_ok  hx2) fun a v w ρ hf hw hE hN hΦ => ?_
  obtain rfl := hΦ
  replace o1 := o1.ext hE
  replace o2 := o2.ext hE
  refine sk_ hf (r_store_w (cs' := cForm.enc x1) hw o2 (by decide) ty39 (cForm.len _) (cForm.len _) (cForm.one _) hf rfl rfl rfl) fun a w hf hΦ => ?_
  obtain ⟨hw, hA, o2⟩ := hΦ
  replace o1 := o1.adv hA (by decide)
  refine c_nt <| c_retc ?_
  obtain rfl := Option.some.inj hF
  refine c_ret hf (res_cell Try.results178 ty39 hf rfl o2.cl (cForm.len _)) ?_
  exact ⟨_, rfl, hw.below, rfl⟩
/-! f166 -/
noncomputable def spec_l03Normal (a0 : Int) (a1 : Prod) : Option Prod :=
  (spec_l03Lead a1.1).bind fun x1 => (spec_l03Lead a1.2.1).bind fun x3 => (spec_l01Inverse a0 x1).bind fun x5 => (spec_l01Scale a0 a1.1 x5).bind fun x7 => (spec_l01Inverse a0 x3).bind fun x9 => (spec_l01Scale a0 ((x7, a1.2.1, a1.2.2).2.1) x9).bind fun x11 => (spec_l01Scale a0 (((x7, a1.2.1, a1.2.2).1, x11, (x7, a1.2.1, a1.2.2).2.2).2.2) (w64 (x1 * x3))).bind fun x13 => some ((((x7, a1.2.1, a1.2.2).1, x11, (x7, a1.2.1, a1.2.2).2.2).1, ((x7, a1.2.1, a1.2.2).1, x11, (x7, a1.2.1, a1.2.2).2.2).2.1, x13))
theorem spec_l03Normal_ok {w0 : World} {a0 : Int} {a1 : Prod}   {r : Prod} (hF : spec_l03Normal a0 a1 = some r) :
    Calls Try.prog 166 [vI a0, .agg (cProd.enc a1).toArray].toArray w0 fun e w => ∃ v, e = .returned v ∧ Below w0.heap.size w0 w ∧ .agg (cProd.enc r).toArray = v := by
  refine calls_of (k := 38) Try.func166 rfl rfl (Nat.le_of_ble_eq_true rfl) fun a hf => ?_
  replace hf : Fr 38 a [(0, vI a0), (1, .agg (cProd.enc a1).toArray)] := hf
  refine c_start fun w ρ hw => ?_
  unfold spec_l03Normal at hF
  refine c_seq <| c_region ?_
  refine sx_ hf (r_box (cs := cProd.enc a1) 1 hw hf rfl rfl) fun a v w hf hΦ => ?_
  obtain ⟨g1, ρ, rfl, hw, hE, o1⟩ := hΦ
  refine sx_ hf (r_alloc (cs := cProd.enc zProd) 2 ze78 rfl hw) fun a v w hf hΦ => ?_
  obtain ⟨g2, ρ, rfl, hw, hE, o2⟩ := hΦ
  replace o1 := o1.ext hE
  refine c_nt <| c_seq ?_
  obtain ⟨x1, hx2, hF⟩ := of_bind hF
  replace hf : Fr 38 a [(0, vI a0), (3, .pointer (some ((⟨g1, 0, none⟩ : Addr).add 0))), (4, .pointer (some ((⟨g2, 0, none⟩ : Addr).add 0)))] := hf.sub ⟨rfl, rfl, rfl, trivial⟩
  refine c_drawL (h := 5) mixed (by kernel_rfl) (by kernel_rfl) (fun ρ w => Va ρ w 1 g1 78 (cProd.enc a1) ∧ Va ρ w 2 g2 78 (cProd.enc zProd)) ?_ [fun ρ w v => .pointer (some ((⟨g1, 0, none⟩ : Addr).add (0 + 0))) = v, fun ρ w v => .agg (cForm.enc a1.1).toArray = v, fun ρ w v => vI x1 = v, fun ρ w v => .pointer (some ((⟨g1, 0, none⟩ : Addr).add (0 + 9))) = v, fun ρ w v => .agg (cForm.enc a1.2.1).toArray = v] ?_ hw ⟨o1, o2⟩ hf ?_ ?_
  · intro ρ w ρ' w' hE hG
    obtain ⟨o1, o2⟩ := hG
    exact ⟨o1.ext hE, o2.ext hE⟩
  · exact LastsL.cons (fun _ _ _ _ _ _ h => h) <| LastsL.cons (fun _ _ _ _ _ _ h => h) <| LastsL.cons (fun _ _ _ _ _ _ h => h) <| LastsL.cons (fun _ _ _ _ _ _ h => h) <| LastsL.cons (fun _ _ _ _ _ _ h => h) <| LastsL.nil
  · refine StepsB.cons ?_ <| StepsB.cons ?_ <| StepsB.cons ?_ <| StepsB.cons ?_ <| StepsB.cons ?_ <| StepsB.nil
    · intro ρ w a hw hG hf hd K hK
      obtain ⟨o1, o2⟩ := hG
      exact dv_ hK hw (wn rfl) (r_fa fa78_0 hf rfl) rfl
    · intro ρ w a hw hG hf hd K hK
      obtain ⟨o1, o2⟩ := hG
      obtain ⟨_, hf, rfl⟩ := got (hd 0 (by kernel_rfl)) hf
      exact dv_ hK hw (wn rfl) (r_load_agg ty39 hf rfl (o1.cl.lens lProd_0) (cForm.len _)) rfl
    · intro ρ w a hw hG hf hd K hK
      obtain ⟨o1, o2⟩ := hG
      obtain ⟨_, hf, rfl⟩ := got (hd 1 (by kernel_rfl)) hf
      refine dc_ hK hw (wn rfl) (r_fn en177 hf rfl) (spec_l03Lead_ok  hx2) fun v w' hΦ => ?_
      obtain ⟨hb, hΦ⟩ := hΦ
      obtain rfl := hΦ
      have hE := Ext.new (ρ := ρ) 3 hb
      exact ⟨_, hw.new 3 hb, hE, rfl⟩
    · intro ρ w a hw hG hf hd K hK
      obtain ⟨o1, o2⟩ := hG
      exact dv_ hK hw (wn rfl) (r_fa fa78_1 hf rfl) rfl
    · intro ρ w a hw hG hf hd K hK
      obtain ⟨o1, o2⟩ := hG
      obtain ⟨_, hf, rfl⟩ := got (hd 3 (by kernel_rfl)) hf
      exact dv_ hK hw (wn rfl) (r_load_agg ty39 hf rfl (o1.cl.lens lProd_1) (cForm.len _)) rfl
  intro ρ w a hw hG hf hd
  obtain ⟨o1, o2⟩ := hG
  obtain ⟨_, hf, rfl⟩ := got (hd 2 (by decide)) hf
  obtain ⟨_, hf, rfl⟩ := got (hd 4 (by decide)) hf
  obtain ⟨x3, hx4, hF⟩ := of_bind hF
  refine st_fn 4 hw hf rfl rfl (by decide) (r_fn en177 hf rfl) (spec_l03Lead_ok  hx4) fun a v w ρ hf hw hE hN hΦ => ?_
  obtain rfl := hΦ
  replace o1 := o1.ext hE
  replace o2 := o2.ext hE
  refine s_ hf (r_assign hf rfl) fun a hf => ?_
  refine s_ hf (r_assign hf rfl) fun a hf => ?_
  refine c_nt <| c_seq ?_
  obtain ⟨x5, hx6, hF⟩ := of_bind hF
  replace hf : Fr 38 a [(0, vI a0), (3, .pointer (some ((⟨g1, 0, none⟩ : Addr).add 0))), (4, .pointer (some ((⟨g2, 0, none⟩ : Addr).add 0))), (5, vI x1), (6, vI x3)] := hf.sub ⟨rfl, rfl, rfl, rfl, rfl, trivial⟩
  refine c_drawL (h := 6) mixed (by kernel_rfl) (by kernel_rfl) (fun ρ w => Va ρ w 1 g1 78 (cProd.enc a1) ∧ Va ρ w 2 g2 78 (cProd.enc zProd)) ?_ [fun ρ w v => vI a0 = v, fun ρ w v => .pointer (some ((⟨g1, 0, none⟩ : Addr).add (0 + 0))) = v, fun ρ w v => .agg (cForm.enc a1.1).toArray = v, fun ρ w v => vI a0 = v, fun ρ w v => vI x1 = v, fun ρ w v => vI x5 = v] ?_ hw ⟨o1, o2⟩ hf ?_ ?_
  · intro ρ w ρ' w' hE hG
    obtain ⟨o1, o2⟩ := hG
    exact ⟨o1.ext hE, o2.ext hE⟩
  · exact LastsL.cons (fun _ _ _ _ _ _ h => h) <| LastsL.cons (fun _ _ _ _ _ _ h => h) <| LastsL.cons (fun _ _ _ _ _ _ h => h) <| LastsL.cons (fun _ _ _ _ _ _ h => h) <| LastsL.cons (fun _ _ _ _ _ _ h => h) <| LastsL.cons (fun _ _ _ _ _ _ h => h) <| LastsL.nil
  · refine StepsB.cons ?_ <| StepsB.cons ?_ <| StepsB.cons ?_ <| StepsB.cons ?_ <| StepsB.cons ?_ <| StepsB.cons ?_ <| StepsB.nil
    · intro ρ w a hw hG hf hd K hK
      obtain ⟨o1, o2⟩ := hG
      exact dv_ hK hw (wn rfl) (r_move hf rfl) rfl
    · intro ρ w a hw hG hf hd K hK
      obtain ⟨o1, o2⟩ := hG
      exact dv_ hK hw (wn rfl) (r_fa fa78_0 hf rfl) rfl
    · intro ρ w a hw hG hf hd K hK
      obtain ⟨o1, o2⟩ := hG
      obtain ⟨_, hf, rfl⟩ := got (hd 1 (by kernel_rfl)) hf
      exact dv_ hK hw (wn rfl) (r_load_agg ty39 hf rfl (o1.cl.lens lProd_0) (cForm.len _)) rfl
    · intro ρ w a hw hG hf hd K hK
      obtain ⟨o1, o2⟩ := hG
      exact dv_ hK hw (wn rfl) (r_move hf rfl) rfl
    · intro ρ w a hw hG hf hd K hK
      obtain ⟨o1, o2⟩ := hG
      exact dv_ hK hw (wn rfl) (r_move hf rfl) rfl
    · intro ρ w a hw hG hf hd K hK
      obtain ⟨o1, o2⟩ := hG
      obtain ⟨_, hf, rfl⟩ := got (hd 3 (by kernel_rfl)) hf
      obtain ⟨_, hf, rfl⟩ := got (hd 4 (by kernel_rfl)) hf
      refine dc_ hK hw (wn rfl) (r_fn en135 hf rfl) (spec_l01Inverse_ok  hx6) fun v w' hΦ => ?_
      obtain ⟨hb, hΦ⟩ := hΦ
      obtain rfl := hΦ
      have hE := Ext.new (ρ := ρ) 5 hb
      exact ⟨_, hw.new 5 hb, hE, rfl⟩
  intro ρ w a hw hG hf hd
  obtain ⟨o1, o2⟩ := hG
  obtain ⟨_, hf, rfl⟩ := got (hd 0 (by decide)) hf
  obtain ⟨_, hf, rfl⟩ := got (hd 2 (by decide)) hf
  obtain ⟨_, hf, rfl⟩ := got (hd 5 (by decide)) hf
  obtain ⟨x7, hx8, hF⟩ := of_bind hF
  refine st_fn 6 hw hf rfl rfl (by decide) (r_fn en178 hf rfl) (spec_l01Scale_ok  hx8) fun a v w ρ hf hw hE hN hΦ => ?_
  obtain rfl := hΦ
  replace o1 := o1.ext hE
  replace o2 := o2.ext hE
  refine s_ hf (r_fa fa78_0 hf rfl) fun a hf => ?_
  refine sk_ hf (r_store_l (b := x7) hw o1 (by decide) lProd_0 (by simp only [Nat.zero_add] <;> rfl) ty39 hf rfl rfl rfl) fun a w hf hΦ => ?_
  obtain ⟨hw, hA, o1⟩ := hΦ
  replace o2 := o2.adv hA (by decide)
  refine c_nt <| c_seq ?_
  obtain ⟨x9, hx10, hF⟩ := of_bind hF
  replace hf : Fr 38 a [(0, vI a0), (3, .pointer (some ((⟨g1, 0, none⟩ : Addr).add 0))), (4, .pointer (some ((⟨g2, 0, none⟩ : Addr).add 0))), (5, vI x1), (6, vI x3)] := hf.sub ⟨rfl, rfl, rfl, rfl, rfl, trivial⟩
  refine c_drawL (h := 6) mixed (by kernel_rfl) (by kernel_rfl) (fun ρ w => Va ρ w 1 g1 78 (cProd.enc (x7, a1.2.1, a1.2.2)) ∧ Va ρ w 2 g2 78 (cProd.enc zProd)) ?_ [fun ρ w v => vI a0 = v, fun ρ w v => .pointer (some ((⟨g1, 0, none⟩ : Addr).add (0 + 9))) = v, fun ρ w v => .agg (cForm.enc ((x7, a1.2.1, a1.2.2).2.1)).toArray = v, fun ρ w v => vI a0 = v, fun ρ w v => vI x3 = v, fun ρ w v => vI x9 = v] ?_ hw ⟨o1, o2⟩ hf ?_ ?_
  · intro ρ w ρ' w' hE hG
    obtain ⟨o1, o2⟩ := hG
    exact ⟨o1.ext hE, o2.ext hE⟩
  · exact LastsL.cons (fun _ _ _ _ _ _ h => h) <| LastsL.cons (fun _ _ _ _ _ _ h => h) <| LastsL.cons (fun _ _ _ _ _ _ h => h) <| LastsL.cons (fun _ _ _ _ _ _ h => h) <| LastsL.cons (fun _ _ _ _ _ _ h => h) <| LastsL.cons (fun _ _ _ _ _ _ h => h) <| LastsL.nil
  · refine StepsB.cons ?_ <| StepsB.cons ?_ <| StepsB.cons ?_ <| StepsB.cons ?_ <| StepsB.cons ?_ <| StepsB.cons ?_ <| StepsB.nil
    · intro ρ w a hw hG hf hd K hK
      obtain ⟨o1, o2⟩ := hG
      exact dv_ hK hw (wn rfl) (r_move hf rfl) rfl
    · intro ρ w a hw hG hf hd K hK
      obtain ⟨o1, o2⟩ := hG
      exact dv_ hK hw (wn rfl) (r_fa fa78_1 hf rfl) rfl
    · intro ρ w a hw hG hf hd K hK
      obtain ⟨o1, o2⟩ := hG
      obtain ⟨_, hf, rfl⟩ := got (hd 1 (by kernel_rfl)) hf
      exact dv_ hK hw (wn rfl) (r_load_agg ty39 hf rfl (o1.cl.lens lProd_1) (cForm.len _)) rfl
    · intro ρ w a hw hG hf hd K hK
      obtain ⟨o1, o2⟩ := hG
      exact dv_ hK hw (wn rfl) (r_move hf rfl) rfl
    · intro ρ w a hw hG hf hd K hK
      obtain ⟨o1, o2⟩ := hG
      exact dv_ hK hw (wn rfl) (r_move hf rfl) rfl
    · intro ρ w a hw hG hf hd K hK
      obtain ⟨o1, o2⟩ := hG
      obtain ⟨_, hf, rfl⟩ := got (hd 3 (by kernel_rfl)) hf
      obtain ⟨_, hf, rfl⟩ := got (hd 4 (by kernel_rfl)) hf
      refine dc_ hK hw (wn rfl) (r_fn en135 hf rfl) (spec_l01Inverse_ok  hx10) fun v w' hΦ => ?_
      obtain ⟨hb, hΦ⟩ := hΦ
      obtain rfl := hΦ
      have hE := Ext.new (ρ := ρ) 7 hb
      exact ⟨_, hw.new 7 hb, hE, rfl⟩
  intro ρ w a hw hG hf hd
  obtain ⟨o1, o2⟩ := hG
  obtain ⟨_, hf, rfl⟩ := got (hd 0 (by decide)) hf
  obtain ⟨_, hf, rfl⟩ := got (hd 2 (by decide)) hf
  obtain ⟨_, hf, rfl⟩ := got (hd 5 (by decide)) hf
  obtain ⟨x11, hx12, hF⟩ := of_bind hF
  refine st_fn 8 hw hf rfl rfl (by decide) (r_fn en178 hf rfl) (spec_l01Scale_ok  hx12) fun a v w ρ hf hw hE hN hΦ => ?_
  obtain rfl := hΦ
  replace o1 := o1.ext hE
  replace o2 := o2.ext hE
  refine s_ hf (r_fa fa78_1 hf rfl) fun a hf => ?_
  refine sk_ hf (r_store_l (b := x11) hw o1 (by decide) lProd_1 (by simp only [Nat.zero_add] <;> rfl) ty39 hf rfl rfl rfl) fun a w hf hΦ => ?_
  obtain ⟨hw, hA, o1⟩ := hΦ
  replace o2 := o2.adv hA (by decide)
  refine c_nt <| c_seq <| c_region ?_
  refine s_ hf (r_move hf rfl) fun a hf => ?_
  refine s_ hf (r_fa fa78_2 hf rfl) fun a hf => ?_
  refine s_ hf (r_load_agg ty39 hf rfl (o1.cl.lens lProd_2) (cForm.len _)) fun a hf => ?_
  refine s_ hf (r_move hf rfl) fun a hf => ?_
  refine s_ hf (r_move hf rfl) fun a hf => ?_
  refine s_ hf (r_mul hf rfl rfl) fun a hf => ?_
  obtain ⟨x13, hx14, hF⟩ := of_bind hF
  refine st_fn 9 hw hf rfl rfl (by decide) (r_fn en178 hf rfl) (spec_l01Scale_ok  hx14) fun a v w ρ hf hw hE hN hΦ => ?_
  obtain rfl := hΦ
  replace o1 := o1.ext hE
  replace o2 := o2.ext hE
  refine s_ hf (r_fa fa78_2 hf rfl) fun a hf => ?_
  refine sk_ hf (r_store_l (b := x13) hw o1 (by decide) lProd_2 (by simp only [Nat.zero_add] <;> rfl) ty39 hf rfl rfl rfl) fun a w hf hΦ => ?_
  obtain ⟨hw, hA, o1⟩ := hΦ
  replace o2 := o2.adv hA (by decide)
  refine c_nt <| c_seq <| c_region ?_
  refine s_ hf (r_load_agg ty78 hf rfl o1.cl (cProd.len _)) fun a hf => ?_
  refine sk_ hf (r_store_w (cs' := cProd.enc (((x7, a1.2.1, a1.2.2).1, x11, (x7, a1.2.1, a1.2.2).2.2).1, ((x7, a1.2.1, a1.2.2).1, x11, (x7, a1.2.1, a1.2.2).2.2).2.1, x13)) hw o2 (by decide) ty78 (cProd.len _) (cProd.len _) (cProd.one _) hf rfl rfl rfl) fun a w hf hΦ => ?_
  obtain ⟨hw, hA, o2⟩ := hΦ
  replace o1 := o1.adv hA (by decide)
  refine c_nt <| c_retc ?_
  obtain rfl := Option.some.inj hF
  refine c_ret hf (res_cell Try.results166 ty78 hf rfl o2.cl (cProd.len _)) ?_
  exact ⟨_, rfl, hw.below, rfl⟩
/-! f144 -/
noncomputable def slices_Clone_144 (a0 : List Int) : Option (List Int) :=
  if (([] : List Int).length + a0.length) * 8 ≤ 140737488355328 then (some ((([] : List Int) ++ a0))) else none
theorem slices_Clone_144_ok {w0 : World} {a0 : List Int} {va0 : Value} (h0 : Ro (kf fI64) w0 va0 a0) {r : List Int} (hF : slices_Clone_144 a0 = some r) :
    Calls Try.prog 144 [va0].toArray w0 fun e w => ∃ v, e = .returned v ∧ Below w0.heap.size w0 w ∧ ∃ u0, u0 = v ∧ Fresh (kf fI64) 2 w0 w u0 r := by
  refine calls_of (k := 8) Try.func144 rfl rfl (Nat.le_of_ble_eq_true rfl) fun a hf => ?_
  replace hf : Fr 8 a [(0, va0)] := hf
  refine c_start fun w ρ hw => ?_
  unfold slices_Clone_144 at hF
  refine c_seq <| c_region ?_
  have o1 : Ow (kf fI64) 2 ρ w w0.heap.size 1 (.slice none 0 0) [] := Ow.nil _ _ _ _ _ _
  refine s_ hf (r_assign hf rfl) fun a hf => ?_
  refine c_nt <| c_seq <| c_seq <| c_region ?_
  refine s_ hf (r_move hf rfl) fun a hf => ?_
  rcases Ro.nil_or (h0.now hw) with hn1 | hn1
  · replace hF := (show (some (([] : List Int))) = (if (([] : List Int).length + a0.length) * 8 ≤ 140737488355328 then (some ((([] : List Int) ++ a0))) else none) from by simp [hn1.2]).trans hF
    refine s_ hf (r_isnil hf rfl hn1.1 rfl Try.underlying61) fun a hf => ?_
    refine c_nt <| c_true hf rfl <| c_seq <| c_region ?_
    have o2 : Ow (kf fI64) 2 ρ w w0.heap.size 2 (.slice none 0 0) [] := Ow.nil _ _ _ _ _ _
    refine s_ hf (r_assign hf rfl) fun a hf => ?_
    refine c_nt <| c_retc ?_
    obtain rfl := Option.some.inj hF
    refine r_then <| c_ret hf (res_tmp Try.results144 hf rfl) ?_
    exact ⟨_, rfl, hw.below, ⟨_, rfl, o2.out⟩⟩
  · refine s_ hf (r_nonil hf rfl hn1 rfl Try.underlying61) fun a hf => ?_
    refine c_nt <| c_false hf rfl <| c_skip <| n_then <| c_seq <| c_region ?_
    refine sx_ hf (r_lit (d := fI64) (xs := ([] : List Int)) (vs := []) 3 Try.underlying61 el2 (Nat.le_of_ble_eq_true rfl) (Nat.le_of_ble_eq_true rfl) hw hf rfl rfl rfl) fun a v3 w hf hΦ => ?_
    obtain ⟨ρ, hw, hE, o3⟩ := hΦ
    replace o1 := o1.ext hE
    refine s_ hf (r_move hf rfl) fun a hf => ?_
    obtain ⟨hc2, hF⟩ := of_guard hF
    refine sx_ hf (r_append Try.underlying61 el2 hw (by decide) o3 (h0.now hw) hc2 hf rfl rfl) fun a va3 w hf hΦ => ?_
    obtain ⟨ρ, hw, hA, o3⟩ := hΦ
    replace o1 := o1.adv hA (by decide)
    refine s_ hf (r_assign hf rfl) fun a hf => ?_
    refine c_nt <| c_retc ?_
    obtain rfl := Option.some.inj hF
    refine c_ret hf (res_tmp Try.results144 hf rfl) ?_
    exact ⟨_, rfl, hw.below, ⟨_, rfl, o3.out⟩⟩
/-! f164 -/
noncomputable def impl_parted_l1 (a0 : List Int) (a1 : Int) (s2 : Int) (s3 : List (List Int)) : Option (LR (Int × (List (List Int))) (List (List Int))) :=
  if (decide (s2 < (a0.length : Int))) = true then (if 0 ≤ s2 ∧ s2 ≤ w64 (s2 + a1) ∧ w64 (s2 + a1) ≤ (a0.length : Int) then ((slices_Clone_144 ((a0.take (w64 (s2 + a1)).toNat).drop s2.toNat)).bind fun x8 => if (s3.length + ([x8]).length) * 24 ≤ 140737488355328 then (some (.next (w64 (s2 + a1), (s3 ++ [x8])))) else none) else none) else (some (.stop (s2, s3)))
noncomputable def impl_parted (a0 : List Int) (a1 : Int) : Option (List (List Int)) :=
  (iter (fun s => impl_parted_l1 a0 a1 s.1 s.2) (0, ([] : List (List Int)))).bind fun o => match o with | .stop (s2, s3) => (some (s3)) | .ret r => some r | .next _ => none
theorem impl_parted_ok {w0 : World} {a0 : List Int} {a1 : Int} {va0 : Value} (h0 : Ro (kf fI64) w0 va0 a0) {r : List (List Int)} (hF : impl_parted a0 a1 = some r) :
    Calls Try.prog 164 [va0, vI a1].toArray w0 fun e w => ∃ v, e = .returned v ∧ Below w0.heap.size w0 w ∧ ∃ u0, u0 = v ∧ Fresh (Kd.slice 2 (kf fI64)) 61 w0 w u0 r := by
  refine calls_of (k := 26) Try.func164 rfl rfl (Nat.le_of_ble_eq_true rfl) fun a hf => ?_
  replace hf : Fr 26 a [(0, va0), (1, vI a1)] := hf
  refine c_start fun w ρ hw => ?_
  unfold impl_parted at hF
  refine c_seq <| c_region ?_
  have o1 : Ow (Kd.slice 2 (kf fI64)) 61 ρ w w0.heap.size 1 (.slice none 0 0) [] := Ow.nil _ _ _ _ _ _
  refine s_ hf (r_assign hf rfl) fun a hf => ?_
  refine c_nt <| c_seq <| c_region ?_
  refine sx_ hf (r_lit_none (d := (Kd.slice 2 (kf fI64))) 2 Try.underlying44 el61 hw) fun a v2 w hf hΦ => ?_
  obtain ⟨ρ, hw, hE, o2⟩ := hΦ
  replace o1 := o1.ext hE
  refine s_ hf (r_assign hf rfl) fun a hf => ?_
  refine c_nt <| c_seq <| c_seq <| c_region ?_
  refine s_ hf (r_assign hf rfl) fun a hf => ?_
  refine c_nt ?_
  obtain ⟨ol1, ho1, hG1⟩ := of_bind hF
  clear hF
  refine c_block (c_loop (id := 0) (fun s => impl_parted_l1 a0 a1 s.1 s.2) (fun (s : Int × (List (List Int))) a w => match s with | (s2, s3) => ∃ ρ v4, Wd w0 ρ w ∧ Fr 26 a [(0, va0), (1, vI a1), (5, v4), (6, vI s2)] ∧ O61 ρ w w0 2 v4 s3) (fun (s : Int × (List (List Int))) a w => match s with | (s2, s3) => ∃ ρ v4, Wd w0 ρ w ∧ Fr 26 a [(5, v4)] ∧ O61 ρ w w0 2 v4 s3) ho1 ⟨_, _, hw, hf.sub ⟨rfl, rfl, rfl, rfl, trivial⟩, o2⟩ ?_ ?_)
  · rintro ⟨s2, s3⟩ lr a w ⟨ρ, v4, hw, hf, o2⟩ hF
    replace hF : impl_parted_l1 a0 a1 s2 s3 = some lr := hF
    unfold impl_parted_l1 at hF
    refine c_seq <| c_seq <| c_region ?_
    refine s_ hf (r_move hf rfl) fun a hf => ?_
    refine s_ hf (r_move hf rfl) fun a hf => ?_
    refine s_ hf (r_len Try.underlying61 (h0.now hw) hf rfl) fun a hf => ?_
    refine s_ hf (r_lss hf rfl rfl) fun a hf => ?_
    refine c_nt ?_
    rcases of_ite hF with ⟨hb5, hF⟩ | ⟨hb5, hF⟩
    rotate_left
    · refine c_iff hf rfl hb5 <| c_exit <| x_then ?_
      obtain rfl := Option.some.inj hF
      exact Rnd.stops ⟨_, _, hw, hf.sub ⟨rfl, trivial⟩, o2⟩
    refine c_ift hf rfl hb5 <| c_skip <| n_then <| c_seq <| c_block <| c_region ?_
    refine s_ hf (r_move hf rfl) fun a hf => ?_
    refine s_ hf (r_move hf rfl) fun a hf => ?_
    refine s_ hf (r_move hf rfl) fun a hf => ?_
    refine s_ hf (r_move hf rfl) fun a hf => ?_
    refine s_ hf (r_move hf rfl) fun a hf => ?_
    refine s_ hf (r_add hf rfl rfl) fun a hf => ?_
    obtain ⟨hc6, hF⟩ := of_guard hF
    have hq7 : Ro (kf fI64) w0 (cutV va0 s2.toNat (w64 (s2 + a1)).toNat 1) ((a0.take (w64 (s2 + a1)).toNat).drop s2.toNat) := ro_cutV h0 hc6.1 hc6.2.1 hc6.2.2
    refine s_ hf (r_cut_v (lo := s2) (hi := w64 (s2 + a1)) Try.underlying61 sz2 rfl (h0.now hw) hf rfl (.inr ⟨_, rfl, rfl⟩) (.inr ⟨_, rfl, rfl⟩) hc6.1 hc6.2.1 hc6.2.2) fun a hf => ?_
    obtain ⟨x8, hx9, hF⟩ := of_bind hF
    refine st_fn 3 hw hf rfl rfl (by decide) (r_fn en144 hf rfl) (slices_Clone_144_ok (hq7.now hw) hx9) fun a v w ρ hf hw hE hN hΦ => ?_
    obtain ⟨u10, rfl, hr11⟩ := hΦ
    replace o2 := o2.ext hE
    have o3 := hN hr11
    refine sx_ hf (r_lit_row 4 Try.underlying44 el61 hw (by decide) hf rfl o3) fun a v4 w hf hΦ => ?_
    obtain ⟨ρ, hw, hT, hB, o4⟩ := hΦ
    replace o2 := o2.tr (hT 2 (by decide))
    obtain ⟨hc12, hF⟩ := of_guard hF
    refine sx_ hf (r_append_own Try.underlying44 el61 hw (by decide) (by decide) (by decide) o2 o4 hc12 hf rfl rfl) fun a va13 w hf hΦ => ?_
    obtain ⟨ρ, hw, hT, o2⟩ := hΦ
    refine s_ hf (r_assign hf rfl) fun a hf => ?_
    refine c_nil <| n_block <| n_then <| c_region ?_
    refine s_ hf (r_move hf rfl) fun a hf => ?_
    refine s_ hf (r_move hf rfl) fun a hf => ?_
    refine s_ hf (r_add hf rfl rfl) fun a hf => ?_
    refine s_ hf (r_assign hf rfl) fun a hf => ?_
    refine c_nil ?_
    obtain rfl := Option.some.inj hF
    exact Rnd.goes ⟨_, _, hw, hf.sub ⟨rfl, rfl, rfl, rfl, trivial⟩, o2⟩
  rintro ⟨s2, s3⟩ a w hs ⟨ρ, v4, hw, hf, o2⟩
  subst hs
  have hF := hG1
  dsimp only at hF
  refine x_block <| n_then <| c_seq <| c_region ?_
  refine s_ hf (r_move hf rfl) fun a hf => ?_
  refine s_ hf (r_assign hf rfl) fun a hf => ?_
  refine c_nt <| c_retc ?_
  obtain rfl := Option.some.inj hF
  refine c_ret hf (res_tmp Try.results164 hf rfl) ?_
  exact ⟨_, rfl, hw.below, ⟨_, rfl, o2.out⟩⟩
/-! f137 -/
noncomputable def impl_matrixOf_l1 (a0 : Form) (a1 : Int) (a2 : Int) (s2 : Int) (s3 : List Int) : Option (LR (Int × (List Int)) (List (List Int))) :=
  if (decide (s2 < (w64 (a1 * a2)))) = true then (if 0 ≤ s2 ∧ s2 < 9 then (if (s3.length + ([((vg 0 a0 s2).toNat : Int)]).length) * 8 ≤ 140737488355328 then (some (.next (w64 (s2 + 1), (s3 ++ [((vg 0 a0 s2).toNat : Int)])))) else none) else none) else (some (.stop (s2, s3)))
noncomputable def impl_matrixOf (a0 : Form) (a1 : Int) (a2 : Int) : Option (List (List Int)) :=
  (iter (fun s => impl_matrixOf_l1 a0 a1 a2 s.1 s.2) (0, ([] : List Int))).bind fun o => match o with | .stop (s2, s3) => ((impl_parted s3 a2).bind fun x9 => some (x9)) | .ret r => some r | .next _ => none
theorem impl_matrixOf_ok {w0 : World} {a0 : Form} {a1 : Int} {a2 : Int}   {r : List (List Int)} (hF : impl_matrixOf a0 a1 a2 = some r) :
    Calls Try.prog 137 [.agg (cForm.enc a0).toArray, vI a1, vI a2].toArray w0 fun e w => ∃ v, e = .returned v ∧ Below w0.heap.size w0 w ∧ ∃ u0, u0 = v ∧ Fresh (Kd.slice 2 (kf fI64)) 61 w0 w u0 r := by
  refine calls_of (k := 27) Try.func137 rfl rfl (Nat.le_of_ble_eq_true rfl) fun a hf => ?_
  replace hf : Fr 27 a [(0, .agg (cForm.enc a0).toArray), (1, vI a1), (2, vI a2)] := hf
  refine c_start fun w ρ hw => ?_
  unfold impl_matrixOf at hF
  refine c_seq <| c_region ?_
  refine sx_ hf (r_box (cs := cForm.enc a0) 1 hw hf rfl rfl) fun a v w hf hΦ => ?_
  obtain ⟨g1, ρ, rfl, hw, hE, o1⟩ := hΦ
  have o2 : Ow (Kd.slice 2 (kf fI64)) 61 ρ w w0.heap.size 2 (.slice none 0 0) [] := Ow.nil _ _ _ _ _ _
  refine s_ hf (r_assign hf rfl) fun a hf => ?_
  refine c_nt <| c_seq <| c_region ?_
  refine sx_ hf (r_lit (d := fI64) (xs := ([] : List Int)) (vs := []) 3 Try.underlying61 el2 (Nat.le_of_ble_eq_true rfl) (Nat.le_of_ble_eq_true rfl) hw hf rfl rfl rfl) fun a v3 w hf hΦ => ?_
  obtain ⟨ρ, hw, hE, o3⟩ := hΦ
  replace o1 := o1.ext hE
  replace o2 := o2.ext hE
  refine s_ hf (r_assign hf rfl) fun a hf => ?_
  refine c_nt <| c_seq <| c_seq <| c_region ?_
  refine s_ hf (r_move hf rfl) fun a hf => ?_
  refine s_ hf (r_move hf rfl) fun a hf => ?_
  refine s_ hf (r_mul hf rfl rfl) fun a hf => ?_
  refine s_ hf (r_move hf rfl) fun a hf => ?_
  refine c_nt ?_
  obtain ⟨ol1, ho1, hG1⟩ := of_bind hF
  clear hF
  refine c_block (c_loop (id := 0) (fun s => impl_matrixOf_l1 a0 a1 a2 s.1 s.2) (fun (s : Int × (List Int)) a w => match s with | (s2, s3) => ∃ ρ v4, Wd w0 ρ w ∧ Fr 27 a [(2, vI a2), (3, .pointer (some ((⟨g1, 0, none⟩ : Addr).add 0))), (7, v4), (12, vI (w64 (a1 * a2))), (13, vI s2)] ∧ Va ρ w 1 g1 39 (cForm.enc a0) ∧ O2 ρ w w0 3 v4 s3) (fun (s : Int × (List Int)) a w => match s with | (s2, s3) => ∃ ρ v4, Wd w0 ρ w ∧ Fr 27 a [(2, vI a2), (7, v4)] ∧ O2 ρ w w0 3 v4 s3) ho1 ⟨_, _, hw, hf.sub ⟨rfl, rfl, rfl, rfl, rfl, trivial⟩, o1, o3⟩ ?_ ?_)
  · rintro ⟨s2, s3⟩ lr a w ⟨ρ, v4, hw, hf, o1, o3⟩ hF
    replace hF : impl_matrixOf_l1 a0 a1 a2 s2 s3 = some lr := hF
    unfold impl_matrixOf_l1 at hF
    refine c_seq <| c_region ?_
    refine s_ hf (r_lss hf rfl rfl) fun a hf => ?_
    refine c_nt <| c_seq ?_
    rcases of_ite hF with ⟨hb5, hF⟩ | ⟨hb5, hF⟩
    rotate_left
    · refine c_iff hf rfl hb5 <| c_exit <| x_then ?_
      obtain rfl := Option.some.inj hF
      exact Rnd.stops ⟨_, _, hw, hf.sub ⟨rfl, rfl, trivial⟩, o3⟩
    refine c_ift hf rfl hb5 <| c_skip <| n_then <| c_seq <| c_block <| c_seq <| c_region ?_
    refine s_ hf (r_move hf rfl) fun a hf => ?_
    refine s_ hf (r_assign hf rfl) fun a hf => ?_
    refine c_nt <| c_region ?_
    refine s_ hf (r_move hf rfl) fun a hf => ?_
    refine s_ hf (r_move hf rfl) fun a hf => ?_
    obtain ⟨hc6, hF⟩ := of_guard hF
    refine s_ hf (r_indexAddr_arr Try.underlying39 sz5 hf rfl rfl hc6.1 hc6.2) fun a hf => ?_
    refine s_ hf (r_load_cell ty5 hf rfl (o1.cl.lens (Lens.vec 0 fU8 s2 hc6.1 hc6.2))) fun a hf => ?_
    refine s_ hf (r_conv_u8_i64 Try.underlying5 Try.underlying2 hf rfl) fun a hf => ?_
    refine sx_ hf (r_lit (d := fI64) (xs := ([((vg 0 a0 s2).toNat : Int)] : List Int)) (vs := [vI ((vg 0 a0 s2).toNat : Int)]) 4 Try.underlying61 el2 (Nat.le_of_ble_eq_true rfl) (Nat.le_of_ble_eq_true rfl) hw hf rfl rfl rfl) fun a v4 w hf hΦ => ?_
    obtain ⟨ρ, hw, hE, o4⟩ := hΦ
    replace o1 := o1.ext hE
    replace o3 := o3.ext hE
    obtain ⟨hc7, hF⟩ := of_guard hF
    refine sx_ hf (r_append Try.underlying61 el2 hw (by decide) o3 o4.ro hc7 hf rfl rfl) fun a va8 w hf hΦ => ?_
    obtain ⟨ρ, hw, hA, o3⟩ := hΦ
    replace o1 := o1.adv hA (by decide)
    replace o4 := o4.adv hA (by decide)
    refine s_ hf (r_assign hf rfl) fun a hf => ?_
    refine c_nil <| n_block <| n_then <| c_region ?_
    refine s_ hf (r_add hf rfl rfl) fun a hf => ?_
    refine s_ hf (r_move hf rfl) fun a hf => ?_
    refine c_nil ?_
    obtain rfl := Option.some.inj hF
    exact Rnd.goes ⟨_, _, hw, hf.sub ⟨rfl, rfl, rfl, rfl, rfl, trivial⟩, o1, o3⟩
  rintro ⟨s2, s3⟩ a w hs ⟨ρ, v4, hw, hf, o3⟩
  subst hs
  have hF := hG1
  dsimp only at hF
  refine x_block <| n_then <| c_seq <| c_region ?_
  refine s_ hf (r_move hf rfl) fun a hf => ?_
  refine s_ hf (r_move hf rfl) fun a hf => ?_
  obtain ⟨x9, hx10, hF⟩ := of_bind hF
  refine st_fn 5 hw hf rfl rfl (by decide) (r_fn en164 hf rfl) (impl_parted_ok o3.ro hx10) fun a v w ρ hf hw hE hN hΦ => ?_
  obtain ⟨u11, rfl, hr12⟩ := hΦ
  replace o3 := o3.ext hE
  have o5 := hN hr12
  refine s_ hf (r_assign hf rfl) fun a hf => ?_
  refine c_nt <| c_retc ?_
  obtain rfl := Option.some.inj hF
  refine c_ret hf (res_tmp Try.results137 hf rfl) ?_
  exact ⟨_, rfl, hw.below, ⟨_, rfl, o5.out⟩⟩
/-! f163 -/
noncomputable def impl_rank_1 (a0 : List Int) (c1 : Int) : Option Bool :=
  if 0 ≤ c1 ∧ c1 < (a0.length : Int) then (some (decide ((gl 0 a0 c1) ≠ 0))) else none
theorem impl_rank_1_ok {w0 : World} {a0 : List Int} {c1 : Int} {va0 : Value} {gc1 : Nat} (h0 : Ro (kf fI64) w0 va0 a0) (hc1 : Cl w0 ⟨gc1, 0, none⟩ 0 [vI c1]) {r : Bool} (hF : impl_rank_1 a0 c1 = some r) :
    Calls Try.prog 163 [va0, .pointer (some ((⟨gc1, 0, none⟩ : Addr).add 0))].toArray w0 fun e w => ∃ v, e = .returned v ∧ Below w0.heap.size w0 w ∧ .bool r = v := by
  refine calls_of (k := 9) Try.func163 rfl rfl (Nat.le_of_ble_eq_true rfl) fun a hf => ?_
  replace hf : Fr 9 a [(0, va0), (1, .pointer (some ((⟨gc1, 0, none⟩ : Addr).add 0)))] := hf
  refine c_start fun w ρ hw => ?_
  unfold impl_rank_1 at hF
  refine c_seq <| c_region ?_
  refine s_ hf (r_assign hf rfl) fun a hf => ?_
  refine c_nt <| c_seq <| c_region ?_
  refine s_ hf (r_move hf rfl) fun a hf => ?_
  refine s_ hf (r_load_cell ty3 hf rfl (hc1.below hw.below)) fun a hf => ?_
  obtain ⟨hc1, hF⟩ := of_guard hF
  obtain ⟨ad2, c2, he2, hl2⟩ := Ro.el fI64 h0 0 hc1.1 hc1.2
  refine s_ hf (r_idx Try.underlying61 sz2 hf rfl ⟨_, he2⟩ rfl hc1.1 hc1.2) fun a hf => ?_
  refine s_ hf (r_load_cell ty2 hf rfl (hl2.below hw.below)) fun a hf => ?_
  refine s_ hf (r_neq hf rfl rfl) fun a hf => ?_
  refine s_ hf (r_assign hf rfl) fun a hf => ?_
  refine c_nt <| c_retc ?_
  obtain rfl := Option.some.inj hF
  refine c_ret hf (res_tmp Try.results163 hf rfl) ?_
  exact ⟨_, rfl, hw.below, rfl⟩
/-! f141s163 -/
noncomputable def slices_IndexFunc_141_f163_l1 (a0 : List (List Int)) (c1_0 : Int) (s2 : Int) : Option (LR Int Int) :=
  if (decide (s2 < (a0.length : Int))) = true then (if 0 ≤ s2 ∧ s2 < (a0.length : Int) then ((impl_rank_1 (gl [] a0 s2) c1_0).bind fun x6 => if x6 = true then (some (.ret s2)) else (some (.next (w64 (s2 + 1))))) else none) else (some (.stop s2))
noncomputable def slices_IndexFunc_141_f163 (a0 : List (List Int)) (c1_0 : Int) : Option Int :=
  (iter (fun s => slices_IndexFunc_141_f163_l1 a0 c1_0 s) 0).bind fun o => match o with | .stop s2 => (some ((-1))) | .ret r => some r | .next _ => none
theorem slices_IndexFunc_141_f163_ok {w0 : World} {a0 : List (List Int)} {c1_0 : Int} {va0 : Value} {gc1_0 : Nat} (h0 : Ro (Kd.slice 2 (kf fI64)) w0 va0 a0) (hc1_0 : Cl w0 ⟨gc1_0, 0, none⟩ 0 [vI c1_0]) {r : Int} (hF : slices_IndexFunc_141_f163 a0 c1_0 = some r) :
    Calls Try.prog 141 [va0, .func (.func 163) #[] #[.pointer (some ((⟨gc1_0, 0, none⟩ : Addr).add 0))]].toArray w0 fun e w => ∃ v, e = .returned v ∧ Below w0.heap.size w0 w ∧ .int .i64 r = v := by
  refine calls_of (k := 19) Try.func141 rfl rfl (Nat.le_of_ble_eq_true rfl) fun a hf => ?_
  replace hf : Fr 19 a [(0, va0), (1, .func (.func 163) #[] #[.pointer (some ((⟨gc1_0, 0, none⟩ : Addr).add 0))])] := hf
  refine c_start fun w ρ hw => ?_
  unfold slices_IndexFunc_141_f163 at hF
  refine c_seq <| c_region ?_
  refine s_ hf (r_assign hf rfl) fun a hf => ?_
  refine c_nt <| c_seq <| c_seq <| c_region ?_
  refine s_ hf (r_move hf rfl) fun a hf => ?_
  refine s_ hf (r_len Try.underlying44 (h0.now hw) hf rfl) fun a hf => ?_
  refine s_ hf (r_move hf rfl) fun a hf => ?_
  refine c_nt ?_
  obtain ⟨ol1, ho1, hG1⟩ := of_bind hF
  clear hF
  refine c_block (c_loop (id := 0) (fun s => slices_IndexFunc_141_f163_l1 a0 c1_0 s) (fun (s2 : Int) a w => ∃ ρ, Wd w0 ρ w ∧ Fr 19 a [(0, va0), (1, .func (.func 163) #[] #[.pointer (some ((⟨gc1_0, 0, none⟩ : Addr).add 0))]), (7, vI (a0.length : Int)), (8, vI s2)]) (fun (s2 : Int) a w => ∃ ρ, Wd w0 ρ w ∧ Fr 19 a []) ho1 ⟨_, hw, hf.sub ⟨rfl, rfl, rfl, rfl, trivial⟩⟩ ?_ ?_)
  · rintro s2 lr a w ⟨ρ, hw, hf⟩ hF
    replace hF : slices_IndexFunc_141_f163_l1 a0 c1_0 s2 = some lr := hF
    unfold slices_IndexFunc_141_f163_l1 at hF
    refine c_seq <| c_region ?_
    refine s_ hf (r_lss hf rfl rfl) fun a hf => ?_
    refine c_nt <| c_seq ?_
    rcases of_ite hF with ⟨hb3, hF⟩ | ⟨hb3, hF⟩
    rotate_left
    · refine c_iff hf rfl hb3 <| c_exit <| x_then ?_
      obtain rfl := Option.some.inj hF
      exact Rnd.stops ⟨_, hw, hf.sub trivial⟩
    refine c_ift hf rfl hb3 <| c_skip <| n_then <| c_seq <| c_block <| c_seq <| c_region ?_
    refine s_ hf (r_move hf rfl) fun a hf => ?_
    refine s_ hf (r_assign hf rfl) fun a hf => ?_
    refine c_nt <| c_seq <| c_region ?_
    refine s_ hf (r_move hf rfl) fun a hf => ?_
    refine s_ hf (r_move hf rfl) fun a hf => ?_
    refine s_ hf (r_move hf rfl) fun a hf => ?_
    obtain ⟨hc4, hF⟩ := of_guard hF
    obtain ⟨ad5, c5, u5, he5, hl5, ho5⟩ := Ro.el_row h0 hc4.1 hc4.2
    refine s_ hf (r_idx Try.underlying44 sz61 hf rfl ⟨_, he5⟩ rfl hc4.1 hc4.2) fun a hf => ?_
    refine s_ hf (r_load_cell ty61 hf rfl (hl5.below hw.below)) fun a hf => ?_
    obtain ⟨x6, hx7, hF⟩ := of_bind hF
    refine st_fn 1 hw hf rfl rfl (by decide) (r_fnc en163 hf rfl rfl) (impl_rank_1_ok (ho5.now hw) (hc1_0.below hw.below) hx7) fun a v w ρ hf hw hE hN hΦ => ?_
    obtain rfl := hΦ
    refine c_nt ?_
    rcases of_ite hF with ⟨hb8, hF⟩ | ⟨hb8, hF⟩
    rotate_left
    · refine c_iff hf rfl hb8 <| c_skip <| n_block <| n_then <| c_region ?_
      refine s_ hf (r_add hf rfl rfl) fun a hf => ?_
      refine s_ hf (r_move hf rfl) fun a hf => ?_
      refine c_nil ?_
      obtain rfl := Option.some.inj hF
      exact Rnd.goes ⟨_, hw, hf.sub ⟨rfl, rfl, rfl, rfl, trivial⟩⟩
    refine c_ift hf rfl hb8 <| c_seq <| c_region ?_
    refine s_ hf (r_move hf rfl) fun a hf => ?_
    refine s_ hf (r_assign hf rfl) fun a hf => ?_
    refine c_nt <| c_retc ?_
    obtain rfl := Option.some.inj hF
    refine r_block <| r_then ?_
    refine Rnd.rets fun ho => ?_
    subst ho
    have hF := hG1
    dsimp only at hF
    obtain rfl := Option.some.inj hF
    refine r_block <| r_then <| c_ret hf (res_tmp Try.results141 hf rfl) ?_
    exact ⟨_, rfl, hw.below, rfl⟩
  rintro s2 a w hs ⟨ρ, hw, hf⟩
  subst hs
  have hF := hG1
  dsimp only at hF
  refine x_block <| n_then <| c_seq <| c_region ?_
  refine s_ hf (r_assign hf rfl) fun a hf => ?_
  refine c_nt <| c_retc ?_
  obtain rfl := Option.some.inj hF
  refine c_ret hf (res_tmp Try.results141 hf rfl) ?_
  exact ⟨_, rfl, hw.below, rfl⟩
/-! f136 -/
noncomputable def impl_rank_l1 (a1 : List (List Int)) (s2 : Int) (s3 : List Nat) (s4 : List (List Int)) : Option (LR (Int × (List Nat) × (List (List Int))) Int) :=
  if (decide (s2 < (a1.length : Int))) = true then (if 0 ≤ s2 ∧ s2 < (a1.length : Int) then ((slices_Clone_144 (gl [] a1 s2)).bind fun x10 => if (s3.length + 1) * 24 ≤ 140737488355328 then (some (.next (w64 (s2 + 1), (s3 ++ [s4.length]), (s4 ++ [x10])))) else none) else none) else (some (.stop (s2, s3, s4)))
noncomputable def impl_rank_l56 (a0 : Int) (s18 : Int) (s19 : List Nat) (s22 : Int) (x30 : Int) (x44 : Int) (s47 : Int) (s48 : List (List Int)) (s57 : Int) (s58 : List (List Int)) : Option (LR (Int × (List (List Int))) Int) :=
  if (decide (s57 < ((s48.getD (gl 0 ((s19.set s18.toNat (gl 0 s19 (w64 (s18 + x30)))).set (w64 (s18 + x30)).toNat (gl 0 s19 s18)) s47) []).length : Int))) = true then (if 0 ≤ s57 ∧ s57 < ((s58.getD (gl 0 ((s19.set s18.toNat (gl 0 s19 (w64 (s18 + x30)))).set (w64 (s18 + x30)).toNat (gl 0 s19 s18)) s47) []).length : Int) then (if 0 ≤ s57 ∧ s57 < ((s58.getD (gl 0 ((s19.set s18.toNat (gl 0 s19 (w64 (s18 + x30)))).set (w64 (s18 + x30)).toNat (gl 0 s19 s18)) s18) []).length : Int) then (some (.next (w64 (s57 + 1), (s58.set (gl 0 ((s19.set s18.toNat (gl 0 s19 (w64 (s18 + x30)))).set (w64 (s18 + x30)).toNat (gl 0 s19 s18)) s47) ((s58.getD (gl 0 ((s19.set s18.toNat (gl 0 s19 (w64 (s18 + x30)))).set (w64 (s18 + x30)).toNat (gl 0 s19 s18)) s47) []).set s57.toNat ((w64 (((w64 ((gl 0 (s58.getD (gl 0 ((s19.set s18.toNat (gl 0 s19 (w64 (s18 + x30)))).set (w64 (s18 + x30)).toNat (gl 0 s19 s18)) s47) []) s57) - (w64 (((w64 ((gl 0 (s48.getD (gl 0 ((s19.set s18.toNat (gl 0 s19 (w64 (s18 + x30)))).set (w64 (s18 + x30)).toNat (gl 0 s19 s18)) s47) []) s22) * x44)).tmod a0) * (gl 0 (s58.getD (gl 0 ((s19.set s18.toNat (gl 0 s19 (w64 (s18 + x30)))).set (w64 (s18 + x30)).toNat (gl 0 s19 s18)) s18) []) s57))))).tmod a0) + a0)).tmod a0)))))) else none) else none) else (some (.stop (s57, s58)))
noncomputable def impl_rank_l46 (a0 : Int) (s18 : Int) (s19 : List Nat) (s22 : Int) (x30 : Int) (x44 : Int) (s47 : Int) (s48 : List (List Int)) : Option (LR (Int × (List (List Int))) Int) :=
  if (decide (s47 < (((s19.set s18.toNat (gl 0 s19 (w64 (s18 + x30)))).set (w64 (s18 + x30)).toNat (gl 0 s19 s18)).length : Int))) = true then (if 0 ≤ s47 ∧ s47 < (((s19.set s18.toNat (gl 0 s19 (w64 (s18 + x30)))).set (w64 (s18 + x30)).toNat (gl 0 s19 s18)).length : Int) then (if 0 ≤ s22 ∧ s22 < ((s48.getD (gl 0 ((s19.set s18.toNat (gl 0 s19 (w64 (s18 + x30)))).set (w64 (s18 + x30)).toNat (gl 0 s19 s18)) s47) []).length : Int) then (if a0 ≠ 0 then ((iter (fun s => impl_rank_l56 a0 s18 s19 s22 x30 x44 s47 s48 s.1 s.2) (0, s48)).bind fun o => match o with | .stop (s57, s58) => (some (.next (w64 (s47 + 1), s58))) | .ret r => some (.ret r) | .next _ => none) else none) else none) else none) else (some (.stop (s47, s48)))
noncomputable def impl_rank_l17 (a0 : Int) (s18 : Int) (s19 : List Nat) (s20 : List (List Int)) (s22 : Int) : Option (LR (Int × (List Nat) × (List (List Int)) × Int) Int) :=
  (if (decide (s18 < (s19.length : Int))) = true then (if 0 ≤ (0 : Int) ∧ (0 : Int) < (s19.length : Int) then (some (decide (s22 < ((s20.getD (gl 0 s19 (0 : Int)) []).length : Int)))) else none) else (some false)).bind fun (s24 : Bool) => if s24 = true then (if 0 ≤ s18 ∧ s18 ≤ ((gi s19 s20).length : Int) then ((slices_IndexFunc_141_f163 (((gi s19 s20).take ((gi s19 s20).length : Int).toNat).drop s18.toNat) s22).bind fun x30 => if (decide (x30 < 0)) = true then (some (.next (s18, s19, s20, w64 (s22 + 1)))) else (if 0 ≤ w64 (s18 + x30) ∧ w64 (s18 + x30) < (s19.length : Int) then (if 0 ≤ s18 ∧ s18 < (s19.length : Int) then (if 0 ≤ w64 (s18 + x30) ∧ w64 (s18 + x30) < ((s19.set s18.toNat (gl 0 s19 (w64 (s18 + x30)))).length : Int) then (if 0 ≤ s18 ∧ s18 < (((s19.set s18.toNat (gl 0 s19 (w64 (s18 + x30)))).set (w64 (s18 + x30)).toNat (gl 0 s19 s18)).length : Int) then (if 0 ≤ s22 ∧ s22 < ((s20.getD (gl 0 ((s19.set s18.toNat (gl 0 s19 (w64 (s18 + x30)))).set (w64 (s18 + x30)).toNat (gl 0 s19 s18)) s18) []).length : Int) then ((impl_inverse a0 (gl 0 (s20.getD (gl 0 ((s19.set s18.toNat (gl 0 s19 (w64 (s18 + x30)))).set (w64 (s18 + x30)).toNat (gl 0 s19 s18)) s18) []) s22)).bind fun x44 => (iter (fun s => impl_rank_l46 a0 s18 s19 s22 x30 x44 s.1 s.2) (w64 (s18 + 1), s20)).bind fun o => match o with | .stop (s47, s48) => (some (.next (w64 (s18 + 1), ((s19.set s18.toNat (gl 0 s19 (w64 (s18 + x30)))).set (w64 (s18 + x30)).toNat (gl 0 s19 s18)), s48, w64 (s22 + 1)))) | .ret r => some (.ret r) | .next _ => none) else none) else none) else none) else none) else none)) else none) else (some (.stop (s18, s19, s20, s22)))
noncomputable def impl_rank (a0 : Int) (a1 : List (List Int)) : Option Int :=
  (iter (fun s => impl_rank_l1 a1 s.1 s.2.1 s.2.2) (0, ([] : List Nat), ([] : List (List Int)))).bind fun o => match o with | .stop (s2, s3, s4) => ((iter (fun s => impl_rank_l17 a0 s.1 s.2.1 s.2.2.1 s.2.2.2) (0, s3, s4, 0)).bind fun o => match o with | .stop (s18, s19, s20, s22) => (some (s18)) | .ret r => some r | .next _ => none) | .ret r => some r | .next _ => none
theorem impl_rank_ok {w0 : World} {a0 : Int} {a1 : List (List Int)} {va1 : Value} (h1 : Ro (Kd.slice 2 (kf fI64)) w0 va1 a1) {r : Int} (hF : impl_rank a0 a1 = some r) :
    Calls Try.prog 136 [vI a0, va1].toArray w0 fun e w => ∃ v, e = .returned v ∧ Below w0.heap.size w0 w ∧ .int .i64 r = v := by
  refine calls_of (k := 137) Try.func136 rfl rfl (Nat.le_of_ble_eq_true rfl) fun a hf => ?_
  replace hf : Fr 137 a [(0, vI a0), (1, va1)] := hf
  refine c_start fun w ρ hw => ?_
  unfold impl_rank at hF
  refine c_seq <| c_region ?_
  refine s_ hf (r_assign hf rfl) fun a hf => ?_
  refine c_nt <| c_seq <| c_region ?_
  refine sx_ hf (r_lit_none (d := (Kd.slice 2 (kf fI64))) 1 Try.underlying44 el61 hw) fun a v1 w hf hΦ => ?_
  obtain ⟨ρ, hw, hE, o1⟩ := hΦ
  replace o1 : Gd fI64 2 61 ρ w w0.heap.size 1 v1 (fun _ => (⟨.bool false, rfl⟩ : V1)) ([] : List Nat) ([] : List (List Int)) := Gd.empty o1 rfl (by decide) _
  refine s_ hf (r_assign hf rfl) fun a hf => ?_
  refine c_nt <| c_seq <| c_seq <| c_region ?_
  refine s_ hf (r_move hf rfl) fun a hf => ?_
  refine s_ hf (r_len Try.underlying44 (h1.now hw) hf rfl) fun a hf => ?_
  refine s_ hf (r_move hf rfl) fun a hf => ?_
  refine c_nt ?_
  obtain ⟨ol1, ho1, hG1⟩ := of_bind hF
  clear hF
  refine c_block (c_loop (id := 0) (fun s => impl_rank_l1 a1 s.1 s.2.1 s.2.2) (fun (s : Int × (List Nat) × (List (List Int))) a w => match s with | (s2, s3, s4) => ∃ ρ v5 f6, Wd w0 ρ w ∧ Fr 137 a [(0, vI a0), (5, v5), (16, va1), (17, vI (a1.length : Int)), (18, vI s2)] ∧ Gd fI64 2 61 ρ w w0.heap.size 1 v5 f6 s3 s4) (fun (s : Int × (List Nat) × (List (List Int))) a w => match s with | (s2, s3, s4) => ∃ ρ v5 f6, Wd w0 ρ w ∧ Fr 137 a [(0, vI a0), (5, v5)] ∧ Gd fI64 2 61 ρ w w0.heap.size 1 v5 f6 s3 s4) ho1 ⟨_, _, _, hw, hf.sub ⟨rfl, rfl, rfl, rfl, rfl, trivial⟩, o1⟩ ?_ ?_)
  · rintro ⟨s2, s3, s4⟩ lr a w ⟨ρ, v5, f6, hw, hf, o1⟩ hF
    replace hF : impl_rank_l1 a1 s2 s3 s4 = some lr := hF
    unfold impl_rank_l1 at hF
    refine c_seq <| c_region ?_
    refine s_ hf (r_lss hf rfl rfl) fun a hf => ?_
    refine c_nt <| c_seq ?_
    rcases of_ite hF with ⟨hb7, hF⟩ | ⟨hb7, hF⟩
    rotate_left
    · refine c_iff hf rfl hb7 <| c_exit <| x_then ?_
      obtain rfl := Option.some.inj hF
      exact Rnd.stops ⟨_, _, _, hw, hf.sub ⟨rfl, rfl, trivial⟩, o1⟩
    refine c_ift hf rfl hb7 <| c_skip <| n_then <| c_seq <| c_block <| c_seq <| c_region ?_
    obtain ⟨hc8, hF⟩ := of_guard hF
    obtain ⟨ad9, c9, u9, he9, hl9, ho9⟩ := Ro.el_row h1 hc8.1 hc8.2
    refine s_ hf (r_idx Try.underlying44 sz61 hf rfl ⟨_, he9⟩ rfl hc8.1 hc8.2) fun a hf => ?_
    refine s_ hf (r_load_cell ty61 hf rfl (hl9.below hw.below)) fun a hf => ?_
    refine s_ hf (r_assign hf rfl) fun a hf => ?_
    refine c_nt <| c_region ?_
    refine s_ hf (r_move hf rfl) fun a hf => ?_
    refine s_ hf (r_move hf rfl) fun a hf => ?_
    obtain ⟨x10, hx11, hF⟩ := of_bind hF
    refine st_fn 2 hw hf rfl rfl (by decide) (r_fn en144 hf rfl) (slices_Clone_144_ok (ho9.now hw) hx11) fun a v w ρ hf hw hE hN hΦ => ?_
    obtain ⟨u12, rfl, hr13⟩ := hΦ
    replace o1 := o1.ext hE
    have o2 := hN hr13
    refine sx_ hf (r_glit 3 Try.underlying44 el61 hw hf rfl o2) fun a v3 w hf hΦ => ?_
    obtain ⟨ρ, hw, hE, o3⟩ := hΦ
    replace o1 := o1.ext hE
    replace o2 := o2.ext hE
    obtain ⟨hc14, hF⟩ := of_guard hF
    refine sx_ hf (r_gapp' Try.underlying44 el61 hw (by decide) (by decide) (fun _ => by unfold lab; omega) o1 o3 o2 hc14 hf rfl rfl) fun a va15 w hf hΦ => ?_
    obtain ⟨f15, ρ, hw, hT, o1, hff15, hnu15⟩ := hΦ
    rw [hnu15] at hf
    have hn16 : s4.length < (s4 ++ [x10]).length := by simp
    refine s_ hf (r_assign hf rfl) fun a hf => ?_
    refine c_nil <| n_block <| n_then <| c_region ?_
    refine s_ hf (r_add hf rfl rfl) fun a hf => ?_
    refine s_ hf (r_move hf rfl) fun a hf => ?_
    refine c_nil ?_
    obtain rfl := Option.some.inj hF
    exact Rnd.goes ⟨_, _, _, hw, hf.sub ⟨rfl, rfl, rfl, rfl, rfl, trivial⟩, o1⟩
  rintro ⟨s2, s3, s4⟩ a w hs ⟨ρ, v5, f6, hw, hf, o1⟩
  subst hs
  have hF := hG1
  dsimp only at hF
  refine x_block <| n_then <| c_seq <| c_region ?_
  refine s_ hf (r_assign hf rfl) fun a hf => ?_
  refine c_nt <| c_seq <| c_seq <| c_region ?_
  refine sx_ hf (r_alloc (cs := [vI 0]) 5 ze3 rfl hw) fun a v w hf hΦ => ?_
  obtain ⟨g5, ρ, rfl, hw, hE, o5⟩ := hΦ
  replace o1 := o1.ext hE
  refine sk_ hf (r_store_w (cs' := [vI 0]) hw o5 (by decide) ty3 rfl rfl (one_one rfl) hf rfl rfl rfl) fun a w hf hΦ => ?_
  obtain ⟨hw, hA, o5⟩ := hΦ
  replace o1 := o1.adv hA (by decide) (fun _ => by unfold lab; omega)
  refine c_nt ?_
  obtain ⟨ol17, ho17, hG17⟩ := of_bind hF
  clear hF
  refine c_block (c_loop (id := 2) (fun s => impl_rank_l17 a0 s.1 s.2.1 s.2.2.1 s.2.2.2) (fun (s : Int × (List Nat) × (List (List Int)) × Int) a w => match s with | (s18, s19, s20, s22) => ∃ ρ g21, Wd w0 ρ w ∧ Fr 137 a [(0, vI a0), (5, v5), (8, vI s18), (9, .pointer (some ((⟨g21, 0, none⟩ : Addr).add 0)))] ∧ Gd fI64 2 61 ρ w w0.heap.size 1 v5 f6 s19 s20 ∧ Va ρ w 5 g21 3 ([vI s22])) (fun (s : Int × (List Nat) × (List (List Int)) × Int) a w => match s with | (s18, s19, s20, s22) => ∃ ρ, Wd w0 ρ w ∧ Fr 137 a [(8, vI s18)]) ho17 ⟨_, _, hw, hf.sub ⟨rfl, rfl, rfl, rfl, trivial⟩, o1, o5⟩ ?_ ?_)
  · rintro ⟨s18, s19, s20, s22⟩ lr a w ⟨ρ, g21, hw, hf, o1, o5⟩ hF
    replace hF : impl_rank_l17 a0 s18 s19 s20 s22 = some lr := hF
    unfold impl_rank_l17 at hF
    refine c_seq <| c_seq ?_
    obtain ⟨s24, hT23, hG23⟩ := of_bind hF
    clear hF
    refine c_meet (fun (s24 : Bool) a w => ∃ ρ, Wd w0 ρ w ∧ Fr 137 a [(0, vI a0), (5, v5), (8, vI s18), (9, .pointer (some ((⟨g21, 0, none⟩ : Addr).add 0))), (39, .bool s24)] ∧ Gd fI64 2 61 ρ w w0.heap.size 1 v5 f6 s19 s20 ∧ Va ρ w 5 g21 3 ([vI s22])) s24 ?_ ?_
    · have hF := hT23
      rcases of_ite hF with ⟨hb25, hF⟩ | ⟨hb25, hF⟩
      rotate_left
      · replace hf : Fr 137 a [(0, vI a0), (5, v5), (8, vI s18), (9, .pointer (some ((⟨g21, 0, none⟩ : Addr).add 0)))] := hf.sub ⟨rfl, rfl, rfl, rfl, trivial⟩
        refine c_drawL (h := 10) mixed (by kernel_rfl) (by kernel_rfl) (fun ρ w => Gd fI64 2 61 ρ w w0.heap.size 1 v5 f6 s19 s20 ∧ Va ρ w 5 g21 3 ([vI s22])) ?_ [fun ρ w v => vI s18 = v, fun ρ w v => v5 = v, fun ρ w v => vI (s19.length : Int) = v, fun ρ w v => .bool (decide (s18 < (s19.length : Int))) = v, fun ρ w v => .bool (decide (s18 < (s19.length : Int))) = v, fun ρ w v => undef = v, fun ρ w v => undef = v, fun ρ w v => undef = v, fun ρ w v => undef = v, fun ρ w v => undef = v] ?_ hw ⟨o1, o5⟩ hf ?_ ?_
        · intro ρ w ρ' w' hE hG
          obtain ⟨o1, o5⟩ := hG
          exact ⟨o1.ext hE, o5.ext hE⟩
        · exact LastsL.cons (fun _ _ _ _ _ _ h => h) <| LastsL.cons (fun _ _ _ _ _ _ h => h) <| LastsL.cons (fun _ _ _ _ _ _ h => h) <| LastsL.cons (fun _ _ _ _ _ _ h => h) <| LastsL.cons (fun _ _ _ _ _ _ h => h) <| LastsL.cons (fun _ _ _ _ _ _ h => h) <| LastsL.cons (fun _ _ _ _ _ _ h => h) <| LastsL.cons (fun _ _ _ _ _ _ h => h) <| LastsL.cons (fun _ _ _ _ _ _ h => h) <| LastsL.cons (fun _ _ _ _ _ _ h => h) <| LastsL.nil
        · refine StepsB.cons ?_ <| StepsB.cons ?_ <| StepsB.cons ?_ <| StepsB.cons ?_ <| StepsB.cons ?_ <| StepsB.cons ?_ <| StepsB.cons ?_ <| StepsB.cons ?_ <| StepsB.cons ?_ <| StepsB.cons ?_ <| StepsB.nil
          · intro ρ w a hw hG hf hd K hK
            obtain ⟨o1, o5⟩ := hG
            exact dv_ hK hw (wn rfl) (r_move hf rfl) rfl
          · intro ρ w a hw hG hf hd K hK
            obtain ⟨o1, o5⟩ := hG
            exact dv_ hK hw (wn rfl) (r_move hf rfl) rfl
          · intro ρ w a hw hG hf hd K hK
            obtain ⟨o1, o5⟩ := hG
            obtain ⟨_, hf, rfl⟩ := got (hd 1 (by kernel_rfl)) hf
            exact dv_ hK hw (wn rfl) (r_len Try.underlying44 o1.out.ro hf rfl) rfl
          · intro ρ w a hw hG hf hd K hK
            obtain ⟨o1, o5⟩ := hG
            obtain ⟨_, hf, rfl⟩ := got (hd 0 (by kernel_rfl)) hf
            obtain ⟨_, hf, rfl⟩ := got (hd 2 (by kernel_rfl)) hf
            exact dv_ hK hw (wn rfl) (r_lss hf rfl rfl) rfl
          · intro ρ w a hw hG hf hd K hK
            obtain ⟨o1, o5⟩ := hG
            obtain ⟨_, hf, rfl⟩ := got (hd 3 (by kernel_rfl)) hf
            exact dv_ hK hw (wn rfl) (r_move hf rfl) rfl
          · intro ρ w a hw hG hf hd K hK
            obtain ⟨o1, o5⟩ := hG
            obtain ⟨_, hf, rfl⟩ := got (hd 4 (by kernel_rfl)) hf
            exact do_ hK (b := false) hw hf rfl rfl rfl hb25 rfl rfl
          · intro ρ w a hw hG hf hd K hK
            obtain ⟨o1, o5⟩ := hG
            obtain ⟨_, hf, rfl⟩ := got (hd 4 (by kernel_rfl)) hf
            exact do_ hK (b := false) hw hf rfl rfl rfl hb25 rfl rfl
          · intro ρ w a hw hG hf hd K hK
            obtain ⟨o1, o5⟩ := hG
            obtain ⟨_, hf, rfl⟩ := got (hd 4 (by kernel_rfl)) hf
            obtain ⟨_, hf, rfl⟩ := got (hd 6 (by kernel_rfl)) hf
            exact do_ hK (b := false) hw hf rfl rfl rfl hb25 rfl rfl
          · intro ρ w a hw hG hf hd K hK
            obtain ⟨o1, o5⟩ := hG
            obtain ⟨_, hf, rfl⟩ := got (hd 4 (by kernel_rfl)) hf
            obtain ⟨_, hf, rfl⟩ := got (hd 7 (by kernel_rfl)) hf
            exact do_ hK (b := false) hw hf rfl rfl rfl hb25 rfl rfl
          · intro ρ w a hw hG hf hd K hK
            obtain ⟨o1, o5⟩ := hG
            obtain ⟨_, hf, rfl⟩ := got (hd 4 (by kernel_rfl)) hf
            obtain ⟨_, hf, rfl⟩ := got (hd 8 (by kernel_rfl)) hf
            exact do_ hK (b := false) hw hf rfl rfl rfl hb25 rfl rfl
        intro ρ w a hw hG hf hd
        obtain ⟨o1, o5⟩ := hG
        obtain ⟨_, hf, rfl⟩ := got (hd 4 (by decide)) hf
        obtain ⟨_, hf, rfl⟩ := got (hd 5 (by decide)) hf
        obtain ⟨_, hf, rfl⟩ := got (hd 9 (by decide)) hf
        refine st_no (b := false) hf rfl rfl rfl hb25 rfl (by decide) fun a hf => ?_
        refine s_ hf (r_pick (b := false) hf rfl hb25 rfl) fun a hf => ?_
        refine c_nil ⟨rfl, ?_⟩
        obtain rfl := Option.some.inj hF
        exact ⟨_, hw, hf.sub ⟨rfl, rfl, rfl, rfl, rfl, trivial⟩, o1, o5⟩
      obtain ⟨hc26, hF⟩ := of_guard hF
      replace hf : Fr 137 a [(0, vI a0), (5, v5), (8, vI s18), (9, .pointer (some ((⟨g21, 0, none⟩ : Addr).add 0)))] := hf.sub ⟨rfl, rfl, rfl, rfl, trivial⟩
      refine c_drawL (h := 10) mixed (by kernel_rfl) (by kernel_rfl) (fun ρ w => Gd fI64 2 61 ρ w w0.heap.size 1 v5 f6 s19 s20 ∧ Va ρ w 5 g21 3 ([vI s22])) ?_ [fun ρ w v => vI s18 = v, fun ρ w v => v5 = v, fun ρ w v => vI (s19.length : Int) = v, fun ρ w v => .bool (decide (s18 < (s19.length : Int))) = v, fun ρ w v => .bool (decide (s18 < (s19.length : Int))) = v, fun ρ w v => vI s22 = v, fun ρ w v => v5 = v, fun ρ w v => ∃ ad27, .pointer (some (ad27.add ((0 : Int).toNat * 1))) = v ∧ (gl 0 s19 (0 : Int)) < s20.length ∧ Ce ρ w 1 v5 s19.length ad27 ((0 : Int).toNat * 1) ([(f6 (gl 0 s19 (0 : Int))).1]), fun ρ w v => (f6 (gl 0 s19 (0 : Int))).1 = v ∧ (gl 0 s19 (0 : Int)) < s20.length, fun ρ w v => vI ((s20.getD (gl 0 s19 (0 : Int)) []).length : Int) = v] ?_ hw ⟨o1, o5⟩ hf ?_ ?_
      · intro ρ w ρ' w' hE hG
        obtain ⟨o1, o5⟩ := hG
        exact ⟨o1.ext hE, o5.ext hE⟩
      · exact LastsL.cons (fun _ _ _ _ _ _ h => h) <| LastsL.cons (fun _ _ _ _ _ _ h => h) <| LastsL.cons (fun _ _ _ _ _ _ h => h) <| LastsL.cons (fun _ _ _ _ _ _ h => h) <| LastsL.cons (fun _ _ _ _ _ _ h => h) <| LastsL.cons (fun _ _ _ _ _ _ h => h) <| LastsL.cons (fun _ _ _ _ _ _ h => h) <| LastsL.cons (fun _ _ _ _ _ hE h => by obtain ⟨ad27, h, hn27, hl27⟩ := h; exact ⟨_, h, hn27, hl27.ext hE⟩) <| LastsL.cons (fun _ _ _ _ _ hE h => by obtain ⟨h, hn27⟩ := h; exact ⟨h, hn27⟩) <| LastsL.cons (fun _ _ _ _ _ _ h => h) <| LastsL.nil
      · refine StepsB.cons ?_ <| StepsB.cons ?_ <| StepsB.cons ?_ <| StepsB.cons ?_ <| StepsB.cons ?_ <| StepsB.cons ?_ <| StepsB.cons ?_ <| StepsB.cons ?_ <| StepsB.cons ?_ <| StepsB.cons ?_ <| StepsB.nil
        · intro ρ w a hw hG hf hd K hK
          obtain ⟨o1, o5⟩ := hG
          exact dv_ hK hw (wn rfl) (r_move hf rfl) rfl
        · intro ρ w a hw hG hf hd K hK
          obtain ⟨o1, o5⟩ := hG
          exact dv_ hK hw (wn rfl) (r_move hf rfl) rfl
        · intro ρ w a hw hG hf hd K hK
          obtain ⟨o1, o5⟩ := hG
          obtain ⟨_, hf, rfl⟩ := got (hd 1 (by kernel_rfl)) hf
          exact dv_ hK hw (wn rfl) (r_len Try.underlying44 o1.out.ro hf rfl) rfl
        · intro ρ w a hw hG hf hd K hK
          obtain ⟨o1, o5⟩ := hG
          obtain ⟨_, hf, rfl⟩ := got (hd 0 (by kernel_rfl)) hf
          obtain ⟨_, hf, rfl⟩ := got (hd 2 (by kernel_rfl)) hf
          exact dv_ hK hw (wn rfl) (r_lss hf rfl rfl) rfl
        · intro ρ w a hw hG hf hd K hK
          obtain ⟨o1, o5⟩ := hG
          obtain ⟨_, hf, rfl⟩ := got (hd 3 (by kernel_rfl)) hf
          exact dv_ hK hw (wn rfl) (r_move hf rfl) rfl
        · intro ρ w a hw hG hf hd K hK
          obtain ⟨o1, o5⟩ := hG
          obtain ⟨_, hf, rfl⟩ := got (hd 4 (by kernel_rfl)) hf
          exact dv_ hK hw (wg (b := true) hf rfl rfl rfl hb25) (r_load_cell ty3 hf rfl o5.cl) rfl
        · intro ρ w a hw hG hf hd K hK
          obtain ⟨o1, o5⟩ := hG
          obtain ⟨_, hf, rfl⟩ := got (hd 4 (by kernel_rfl)) hf
          exact dv_ hK hw (wg (b := true) hf rfl rfl rfl hb25) (r_move hf rfl) rfl
        · intro ρ w a hw hG hf hd K hK
          obtain ⟨o1, o5⟩ := hG
          obtain ⟨_, hf, rfl⟩ := got (hd 4 (by kernel_rfl)) hf
          obtain ⟨_, hf, rfl⟩ := got (hd 6 (by kernel_rfl)) hf
          obtain ⟨ad27, hl27⟩ := Ow.ce (d := fRef f6) o1.out 0 hc26.1 hc26.2
          have hn27 := o1.lt_gl hc26.1 hc26.2
          exact dv_ hK hw (wg (b := true) hf rfl rfl rfl hb25) (r_idx Try.underlying44 sz61 hf rfl hl27.at_ rfl hc26.1 hc26.2) (ex_ <| an_ rfl <| an_ hn27 <| hl27)
        · intro ρ w a hw hG hf hd K hK
          obtain ⟨o1, o5⟩ := hG
          obtain ⟨_, hf, rfl⟩ := got (hd 4 (by kernel_rfl)) hf
          obtain ⟨_, hf, ⟨ad27, rfl, hn27, hl27⟩⟩ := got (hd 7 (by kernel_rfl)) hf
          exact dv_ hK hw (wg (b := true) hf rfl rfl rfl hb25) (r_load_cell ty61 hf rfl hl27.co.cl) (an_ rfl <| hn27)
        · intro ρ w a hw hG hf hd K hK
          obtain ⟨o1, o5⟩ := hG
          obtain ⟨_, hf, rfl⟩ := got (hd 4 (by kernel_rfl)) hf
          obtain ⟨_, hf, ⟨rfl, hn27⟩⟩ := got (hd 8 (by kernel_rfl)) hf
          exact dv_ hK hw (wg (b := true) hf rfl rfl rfl hb25) (r_len Try.underlying61 ((o1.rowAt hn27).ro) hf rfl) rfl
      intro ρ w a hw hG hf hd
      obtain ⟨o1, o5⟩ := hG
      obtain ⟨_, hf, rfl⟩ := got (hd 4 (by decide)) hf
      obtain ⟨_, hf, rfl⟩ := got (hd 5 (by decide)) hf
      obtain ⟨_, hf, rfl⟩ := got (hd 9 (by decide)) hf
      refine st_g (b := true) hf rfl rfl rfl hb25 rfl (by decide) (r_lss hf rfl rfl) fun a hf => ?_
      refine s_ hf (r_pick (b := true) hf rfl hb25 rfl) fun a hf => ?_
      refine c_nil ⟨rfl, ?_⟩
      obtain rfl := Option.some.inj hF
      exact ⟨_, hw, hf.sub ⟨rfl, rfl, rfl, rfl, rfl, trivial⟩, o1, o5⟩
    rintro a w ⟨ρ, hw, hf, o1, o5⟩
    have hF := hG23
    refine n_then ?_
    rcases of_ite hF with ⟨hb28, hF⟩ | ⟨hb28, hF⟩
    rotate_left
    · refine c_iff hf rfl hb28 <| c_exit <| x_then ?_
      obtain rfl := Option.some.inj hF
      exact Rnd.stops ⟨_, hw, hf.sub ⟨rfl, trivial⟩⟩
    refine c_ift hf rfl hb28 <| c_skip <| n_then <| c_seq <| c_block <| c_seq <| c_region ?_
    refine s_ hf (r_move hf rfl) fun a hf => ?_
    refine s_ hf (r_move hf rfl) fun a hf => ?_
    obtain ⟨hc29, hF⟩ := of_guard hF
    have o8 : Ro (Kd.slice 2 (kf fI64)) w (cutV v5 s18.toNat ((gi s19 s20).length : Int).toNat 1) (((gi s19 s20).take ((gi s19 s20).length : Int).toNat).drop s18.toNat) := ro_cutV o1.ro hc29.1 hc29.2 (Int.le_refl _)
    refine s_ hf (r_cut_v (lo := s18) (hi := ((gi s19 s20).length : Int)) Try.underlying44 sz61 rfl o1.ro hf rfl (.inr ⟨_, rfl, rfl⟩) (.inl ⟨rfl, rfl⟩) hc29.1 hc29.2 (Int.le_refl _)) fun a hf => ?_
    refine s_ hf (r_mkfn hf rfl) fun a hf => ?_
    obtain ⟨x30, hx31, hF⟩ := of_bind hF
    refine st_fn 9 hw hf rfl rfl (by decide) (r_fn en141 hf rfl) (slices_IndexFunc_141_f163_ok o8 o5.cl hx31) fun a v w ρ hf hw hE hN hΦ => ?_
    obtain rfl := hΦ
    replace o1 := o1.ext hE
    replace o5 := o5.ext hE
    replace o8 := o8.ext hE
    refine s_ hf (r_assign hf rfl) fun a hf => ?_
    refine c_nt <| c_seq <| c_seq <| c_region ?_
    refine s_ hf (r_move hf rfl) fun a hf => ?_
    refine s_ hf (r_lss hf rfl rfl) fun a hf => ?_
    refine c_nt ?_
    rcases of_ite hF with ⟨hb32, hF⟩ | ⟨hb32, hF⟩
    · refine c_ift hf rfl hb32 <| c_exit <| x_then <| x_block <| n_then <| c_seq <| c_seq <| c_region ?_
      refine s_ hf (r_load_cell ty3 hf rfl o5.cl) fun a hf => ?_
      refine c_nt <| c_region ?_
      refine sx_ hf (r_alloc (cs := [vI 0]) 10 ze3 rfl hw) fun a v w hf hΦ => ?_
      obtain ⟨g10, ρ, rfl, hw, hE, o10⟩ := hΦ
      replace o1 := o1.ext hE
      replace o5 := o5.ext hE
      replace o8 := o8.ext hE
      refine sk_ hf (r_store_w (cs' := [vI s22]) hw o10 (by decide) ty3 rfl rfl (one_one rfl) hf rfl rfl rfl) fun a w hf hΦ => ?_
      obtain ⟨hw, hA, o10⟩ := hΦ
      replace o1 := o1.adv hA (by decide) (fun _ => by unfold lab; omega)
      replace o5 := o5.adv hA (by decide)
      refine c_nt <| c_region ?_
      refine s_ hf (r_load_cell ty3 hf rfl o10.cl) fun a hf => ?_
      refine s_ hf (r_add hf rfl rfl) fun a hf => ?_
      refine sk_ hf (r_store_w (cs' := [vI (w64 (s22 + 1))]) hw o10 (by decide) ty3 rfl rfl (one_one rfl) hf rfl rfl rfl) fun a w hf hΦ => ?_
      obtain ⟨hw, hA, o10⟩ := hΦ
      replace o1 := o1.adv hA (by decide) (fun _ => by unfold lab; omega)
      replace o5 := o5.adv hA (by decide)
      refine c_nil ?_
      obtain rfl := Option.some.inj hF
      replace o1 := o1.tr (Tr.relab (j := 10) (b := 5) (by decide)) (fun _ => Tr.relab (by unfold lab; omega))
      replace o10 := o10.relab 5
      replace hw := hw.relab (j := 10) (by decide) 5
      exact Rnd.goes ⟨_, _, hw, hf.sub ⟨rfl, rfl, rfl, rfl, trivial⟩, o1, o10⟩
    refine c_iff hf rfl hb32 <| c_skip <| n_then <| c_seq ?_
    obtain ⟨hc33, hF⟩ := of_guard hF
    obtain ⟨hc35, hF⟩ := of_guard hF
    replace hf : Fr 137 a [(0, vI a0), (5, v5), (8, vI s18), (9, .pointer (some ((⟨g21, 0, none⟩ : Addr).add 0))), (10, vI x30)] := hf.sub ⟨rfl, rfl, rfl, rfl, rfl, trivial⟩
    refine c_stage 18 [17] mixed (by kernel_rfl) (by kernel_rfl) (fun c ρ w => Va ρ w 5 g21 3 ([vI s22]) ∧ (c ≤ 0 → Gd fI64 2 61 ρ w w0.heap.size 1 v5 f6 s19 s20) ∧ (0 < c → Gd fI64 2 61 ρ w w0.heap.size 1 v5 f6 (s19.set s18.toNat (gl 0 s19 (w64 (s18 + x30)))) s20)) ?_ [fun c ρ w v => v5 = v, fun c ρ w v => vI s18 = v, fun c ρ w v => v5 = v, fun c ρ w v => vI s18 = v, fun c ρ w v => vI x30 = v, fun c ρ w v => vI (w64 (s18 + x30)) = v, fun c ρ w v => v5 = v, fun c ρ w v => vI s18 = v, fun c ρ w v => vI x30 = v, fun c ρ w v => vI (w64 (s18 + x30)) = v, fun c ρ w v => ∃ ad34, .pointer (some (ad34.add ((w64 (s18 + x30)).toNat * 1))) = v ∧ (gl 0 s19 (w64 (s18 + x30))) < s20.length ∧ (c ≤ 0 → Ce ρ w 1 v5 s19.length ad34 ((w64 (s18 + x30)).toNat * 1) ([(f6 (gl 0 s19 (w64 (s18 + x30)))).1])), fun c ρ w v => (f6 (gl 0 s19 (w64 (s18 + x30)))).1 = v ∧ (gl 0 s19 (w64 (s18 + x30))) < s20.length, fun c ρ w v => v5 = v, fun c ρ w v => vI s18 = v, fun c ρ w v => ∃ ad36, .pointer (some (ad36.add (s18.toNat * 1))) = v ∧ (gl 0 s19 s18) < s20.length ∧ (c ≤ 0 → Ce ρ w 1 v5 s19.length ad36 (s18.toNat * 1) ([(f6 (gl 0 s19 s18)).1])), fun c ρ w v => (f6 (gl 0 s19 s18)).1 = v ∧ (gl 0 s19 s18) < s20.length, fun c ρ w v => ∃ ad37, .pointer (some (ad37.add (s18.toNat * 1))) = v ∧ (gl 0 s19 s18) < s20.length ∧ (c ≤ 0 → Ce ρ w 1 v5 s19.length ad37 (s18.toNat * 1) ([(f6 (gl 0 s19 s18)).1])), fun _ _ _ _ => True] ?_ hw ⟨o5, (fun _ => o1), (fun h => absurd h (Nat.not_lt_zero _))⟩ hf ?_ ?_
    · intro c ρ w ρ' w' hE hG
      obtain ⟨o5, o1x, o1y⟩ := hG
      exact ⟨o5.ext hE, (fun h => (o1x h).ext hE), (fun h => by obtain o1 := o1y h; exact o1.ext hE)⟩
    · exact LastsS.cons (fun _ _ _ _ _ _ _ h => h) <| LastsS.cons (fun _ _ _ _ _ _ _ h => h) <| LastsS.cons (fun _ _ _ _ _ _ _ h => h) <| LastsS.cons (fun _ _ _ _ _ _ _ h => h) <| LastsS.cons (fun _ _ _ _ _ _ _ h => h) <| LastsS.cons (fun _ _ _ _ _ _ _ h => h) <| LastsS.cons (fun _ _ _ _ _ _ _ h => h) <| LastsS.cons (fun _ _ _ _ _ _ _ h => h) <| LastsS.cons (fun _ _ _ _ _ _ _ h => h) <| LastsS.cons (fun _ _ _ _ _ _ _ h => h) <| LastsS.cons (fun c _ _ _ _ _ hE h => by obtain ⟨ad34, h, hn34, hl34⟩ := h; exact ⟨_, h, hn34, (fun h => (hl34 h).ext hE)⟩) <| LastsS.cons (fun c _ _ _ _ _ hE h => by obtain ⟨h, hn34⟩ := h; exact ⟨h, hn34⟩) <| LastsS.cons (fun _ _ _ _ _ _ _ h => h) <| LastsS.cons (fun _ _ _ _ _ _ _ h => h) <| LastsS.cons (fun c _ _ _ _ _ hE h => by obtain ⟨ad36, h, hn36, hl36⟩ := h; exact ⟨_, h, hn36, (fun h => (hl36 h).ext hE)⟩) <| LastsS.cons (fun c _ _ _ _ _ hE h => by obtain ⟨h, hn36⟩ := h; exact ⟨h, hn36⟩) <| LastsS.cons (fun c _ _ _ _ _ hE h => by obtain ⟨ad37, h, hn37, hl37⟩ := h; exact ⟨_, h, hn37, (fun h => (hl37 h).ext hE)⟩) <| LastsS.cons (fun _ _ _ _ _ _ _ h => h) <| LastsS.nil
    · refine StepsS.float rfl ?_ <| StepsS.float rfl ?_ <| StepsS.float rfl ?_ <| StepsS.float rfl ?_ <| StepsS.float rfl ?_ <| StepsS.float rfl ?_ <| StepsS.float rfl ?_ <| StepsS.float rfl ?_ <| StepsS.float rfl ?_ <| StepsS.float rfl ?_ <| StepsS.float rfl ?_ <| StepsS.float rfl ?_ <| StepsS.float rfl ?_ <| StepsS.float rfl ?_ <| StepsS.float rfl ?_ <| StepsS.float rfl ?_ <| StepsS.float rfl ?_ <| StepsS.main 0 rfl rfl ?_ <| StepsS.nil
      · intro c ρ w a hs hw hG hf hd K hK
        obtain ⟨o5, o1x, o1y⟩ := hG
        have o1 := o1x (hs 0 (by decide) (by kernel_rfl))
        exact dv_ hK hw (wn rfl) (r_move hf rfl) rfl
      · intro c ρ w a hs hw hG hf hd K hK
        obtain ⟨o5, o1x, o1y⟩ := hG
        have o1 := o1x (hs 0 (by decide) (by kernel_rfl))
        exact dv_ hK hw (wn rfl) (r_move hf rfl) rfl
      · intro c ρ w a hs hw hG hf hd K hK
        obtain ⟨o5, o1x, o1y⟩ := hG
        exact dv_ hK hw (wn rfl) (r_move hf rfl) rfl
      · intro c ρ w a hs hw hG hf hd K hK
        obtain ⟨o5, o1x, o1y⟩ := hG
        exact dv_ hK hw (wn rfl) (r_move hf rfl) rfl
      · intro c ρ w a hs hw hG hf hd K hK
        obtain ⟨o5, o1x, o1y⟩ := hG
        exact dv_ hK hw (wn rfl) (r_move hf rfl) rfl
      · intro c ρ w a hs hw hG hf hd K hK
        obtain ⟨o5, o1x, o1y⟩ := hG
        obtain ⟨_, ht3, rfl⟩ := hd 3 (by kernel_rfl) (by kernel_rfl)
        replace hf := hf.more ht3
        obtain ⟨_, ht4, rfl⟩ := hd 4 (by kernel_rfl) (by kernel_rfl)
        replace hf := hf.more ht4
        exact dv_ hK hw (wn rfl) (r_add hf rfl rfl) rfl
      · intro c ρ w a hs hw hG hf hd K hK
        obtain ⟨o5, o1x, o1y⟩ := hG
        have o1 := o1x (hs 0 (by decide) (by kernel_rfl))
        exact dv_ hK hw (wn rfl) (r_move hf rfl) rfl
      · intro c ρ w a hs hw hG hf hd K hK
        obtain ⟨o5, o1x, o1y⟩ := hG
        have o1 := o1x (hs 0 (by decide) (by kernel_rfl))
        exact dv_ hK hw (wn rfl) (r_move hf rfl) rfl
      · intro c ρ w a hs hw hG hf hd K hK
        obtain ⟨o5, o1x, o1y⟩ := hG
        have o1 := o1x (hs 0 (by decide) (by kernel_rfl))
        exact dv_ hK hw (wn rfl) (r_move hf rfl) rfl
      · intro c ρ w a hs hw hG hf hd K hK
        obtain ⟨o5, o1x, o1y⟩ := hG
        have o1 := o1x (hs 0 (by decide) (by kernel_rfl))
        obtain ⟨_, ht7, rfl⟩ := hd 7 (by kernel_rfl) (by kernel_rfl)
        replace hf := hf.more ht7
        obtain ⟨_, ht8, rfl⟩ := hd 8 (by kernel_rfl) (by kernel_rfl)
        replace hf := hf.more ht8
        exact dv_ hK hw (wn rfl) (r_add hf rfl rfl) rfl
      · intro c ρ w a hs hw hG hf hd K hK
        obtain ⟨o5, o1x, o1y⟩ := hG
        have o1 := o1x (hs 0 (by decide) (by kernel_rfl))
        obtain ⟨_, ht6, rfl⟩ := hd 6 (by kernel_rfl) (by kernel_rfl)
        replace hf := hf.more ht6
        obtain ⟨_, ht9, rfl⟩ := hd 9 (by kernel_rfl) (by kernel_rfl)
        replace hf := hf.more ht9
        obtain ⟨ad34, hl34⟩ := Ow.ce (d := fRef f6) o1.out 0 hc33.1 hc33.2
        have hn34 := o1.lt_gl hc33.1 hc33.2
        exact dv_ hK hw (wn rfl) (r_idx Try.underlying44 sz61 hf rfl hl34.at_ rfl hc33.1 hc33.2) (ex_ <| an_ rfl <| an_ hn34 <| fun _ => hl34)
      · intro c ρ w a hs hw hG hf hd K hK
        obtain ⟨o5, o1x, o1y⟩ := hG
        have o1 := o1x (hs 0 (by decide) (by kernel_rfl))
        obtain ⟨_, ht10, ⟨ad34, rfl, hn34, hl34⟩⟩ := hd 10 (by kernel_rfl) (by kernel_rfl)
        replace hl34 := hl34 (hs 0 (by decide) (by kernel_rfl))
        replace hf := hf.more ht10
        exact dv_ hK hw (wn rfl) (r_load_cell ty61 hf rfl hl34.co.cl) (an_ rfl <| hn34)
      · intro c ρ w a hs hw hG hf hd K hK
        obtain ⟨o5, o1x, o1y⟩ := hG
        exact dv_ hK hw (wn rfl) (r_move hf rfl) rfl
      · intro c ρ w a hs hw hG hf hd K hK
        obtain ⟨o5, o1x, o1y⟩ := hG
        exact dv_ hK hw (wn rfl) (r_move hf rfl) rfl
      · intro c ρ w a hs hw hG hf hd K hK
        obtain ⟨o5, o1x, o1y⟩ := hG
        have o1 := o1x (hs 0 (by decide) (by kernel_rfl))
        obtain ⟨_, ht12, rfl⟩ := hd 12 (by kernel_rfl) (by kernel_rfl)
        replace hf := hf.more ht12
        obtain ⟨_, ht13, rfl⟩ := hd 13 (by kernel_rfl) (by kernel_rfl)
        replace hf := hf.more ht13
        obtain ⟨ad36, hl36⟩ := Ow.ce (d := fRef f6) o1.out 0 hc35.1 hc35.2
        have hn36 := o1.lt_gl hc35.1 hc35.2
        exact dv_ hK hw (wn rfl) (r_idx Try.underlying44 sz61 hf rfl hl36.at_ rfl hc35.1 hc35.2) (ex_ <| an_ rfl <| an_ hn36 <| fun _ => hl36)
      · intro c ρ w a hs hw hG hf hd K hK
        obtain ⟨o5, o1x, o1y⟩ := hG
        have o1 := o1x (hs 0 (by decide) (by kernel_rfl))
        obtain ⟨_, ht14, ⟨ad36, rfl, hn36, hl36⟩⟩ := hd 14 (by kernel_rfl) (by kernel_rfl)
        replace hl36 := hl36 (hs 0 (by decide) (by kernel_rfl))
        replace hf := hf.more ht14
        exact dv_ hK hw (wn rfl) (r_load_cell ty61 hf rfl hl36.co.cl) (an_ rfl <| hn36)
      · intro c ρ w a hs hw hG hf hd K hK
        obtain ⟨o5, o1x, o1y⟩ := hG
        have o1 := o1x (hs 0 (by decide) (by kernel_rfl))
        obtain ⟨_, ht0, rfl⟩ := hd 0 (by kernel_rfl) (by kernel_rfl)
        replace hf := hf.more ht0
        obtain ⟨_, ht1, rfl⟩ := hd 1 (by kernel_rfl) (by kernel_rfl)
        replace hf := hf.more ht1
        obtain ⟨ad37, hl37⟩ := Ow.ce (d := fRef f6) o1.out 0 hc35.1 hc35.2
        have hn37 := o1.lt_gl hc35.1 hc35.2
        exact dv_ hK hw (wn rfl) (r_idx Try.underlying44 sz61 hf rfl hl37.at_ rfl hc35.1 hc35.2) (ex_ <| an_ rfl <| an_ hn37 <| fun _ => hl37)
      · intro ρ w a S hw hG hf hS hdep hSi K hK
        obtain ⟨o5, o1x, o1y⟩ := hG
        have hfL := hf
        have o1 := o1x (by decide)
        obtain ⟨_, ht11, ⟨rfl, hn34⟩⟩ := hS 11 (by decide) (hdep 11 (by kernel_rfl)) (by kernel_rfl)
        replace hf := hf.more ht11
        obtain ⟨_, ht16, ⟨ad37, rfl, hn37, hl37⟩⟩ := hS 16 (by decide) (hdep 16 (by kernel_rfl)) (by kernel_rfl)
        replace hl37 := hl37 (by decide)
        replace hf := hf.more ht16
        refine m_skip (Γ := fun c ρ w => Va ρ w 5 g21 3 ([vI s22]) ∧ (c ≤ 0 → Gd fI64 2 61 ρ w w0.heap.size 1 v5 f6 s19 s20) ∧ (0 < c → Gd fI64 2 61 ρ w w0.heap.size 1 v5 f6 (s19.set s18.toNat (gl 0 s19 (w64 (s18 + x30)))) s20)) (Rl := [fun c ρ w v => v5 = v, fun c ρ w v => vI s18 = v, fun c ρ w v => v5 = v, fun c ρ w v => vI s18 = v, fun c ρ w v => vI x30 = v, fun c ρ w v => vI (w64 (s18 + x30)) = v, fun c ρ w v => v5 = v, fun c ρ w v => vI s18 = v, fun c ρ w v => vI x30 = v, fun c ρ w v => vI (w64 (s18 + x30)) = v, fun c ρ w v => ∃ ad34, .pointer (some (ad34.add ((w64 (s18 + x30)).toNat * 1))) = v ∧ (gl 0 s19 (w64 (s18 + x30))) < s20.length ∧ (c ≤ 0 → Ce ρ w 1 v5 s19.length ad34 ((w64 (s18 + x30)).toNat * 1) ([(f6 (gl 0 s19 (w64 (s18 + x30)))).1])), fun c ρ w v => (f6 (gl 0 s19 (w64 (s18 + x30)))).1 = v ∧ (gl 0 s19 (w64 (s18 + x30))) < s20.length, fun c ρ w v => v5 = v, fun c ρ w v => vI s18 = v, fun c ρ w v => ∃ ad36, .pointer (some (ad36.add (s18.toNat * 1))) = v ∧ (gl 0 s19 s18) < s20.length ∧ (c ≤ 0 → Ce ρ w 1 v5 s19.length ad36 (s18.toNat * 1) ([(f6 (gl 0 s19 s18)).1])), fun c ρ w v => (f6 (gl 0 s19 s18)).1 = v ∧ (gl 0 s19 s18) < s20.length, fun c ρ w v => ∃ ad37, .pointer (some (ad37.add (s18.toNat * 1))) = v ∧ (gl 0 s19 s18) < s20.length ∧ (c ≤ 0 → Ce ρ w 1 v5 s19.length ad37 (s18.toNat * 1) ([(f6 (gl 0 s19 s18)).1])), fun _ _ _ _ => True]) hfL hS (by kernel_rfl) rfl (wn rfl) (r_gset (p := s18) hw o1 hn34 hc35.1 hc35.2 hl37.at_ ty61 rfl hf rfl rfl) (fun w' hΦ => ?_) hK
        obtain ⟨hw, hA, o1⟩ := hΦ
        replace o5 := o5.adv hA (by decide)
        refine ⟨_, hw, ⟨o5, (fun h => absurd h (by decide)), (fun _ => o1)⟩, ?_⟩
        · exact PassL.cons (fun h => h) <| PassL.cons (fun h => h) <| PassL.cons (fun h => h) <| PassL.cons (fun h => h) <| PassL.cons (fun h => h) <| PassL.cons (fun h => h) <| PassL.cons (fun h => h) <| PassL.cons (fun h => h) <| PassL.cons (fun h => h) <| PassL.cons (fun h => h) <| PassL.cons (fun h => by obtain ⟨_, ht, ad34, h, hn34, hl34⟩ := h; exact ⟨_, ht, _, h, hn34, (fun h => absurd h (by decide))⟩) <| PassL.cons (fun h => by obtain ⟨_, ht, h, hn34⟩ := h; exact ⟨_, ht, h, hn34⟩) <| PassL.cons (fun h => h) <| PassL.cons (fun h => h) <| PassL.cons (fun h => by obtain ⟨_, ht, ad36, h, hn36, hl36⟩ := h; exact ⟨_, ht, _, h, hn36, (fun h => absurd h (by decide))⟩) <| PassL.cons (fun h => by obtain ⟨_, ht, h, hn36⟩ := h; exact ⟨_, ht, h, hn36⟩) <| PassL.cons (fun h => by obtain ⟨_, ht, ad37, h, hn37, hl37⟩ := h; exact ⟨_, ht, _, h, hn37, (fun h => absurd h (by decide))⟩) <| PassL.here <| PassL.nil
    intro ρ w a hw hG hf hd
    obtain ⟨o5, o1x, o1y⟩ := hG
    obtain o1 := o1y (by decide)
    obtain ⟨_, hf, rfl⟩ := got (hd 2 (by decide) (by kernel_rfl)) hf
    obtain ⟨_, hf, rfl⟩ := got (hd 5 (by decide) (by kernel_rfl)) hf
    obtain ⟨_, hf, ⟨rfl, hn36⟩⟩ := got (hd 15 (by decide) (by kernel_rfl)) hf
    obtain ⟨hc38, hF⟩ := of_guard hF
    obtain ⟨ad39, hl39⟩ := Ow.ce (d := fRef f6) o1.out 0 hc38.1 hc38.2
    have hn39 := o1.lt_gl hc38.1 hc38.2
    refine s_ hf (r_idx Try.underlying44 sz61 hf rfl hl39.at_ rfl hc38.1 hc38.2) fun a hf => ?_
    refine sk_ hf (r_gset (p := w64 (s18 + x30)) hw o1 hn36 hc38.1 hc38.2 hl39.at_ ty61 rfl hf rfl rfl) fun a w hf hΦ => ?_
    obtain ⟨hw, hA, o1⟩ := hΦ
    replace o5 := o5.adv hA (by decide)
    refine c_nt <| c_seq ?_
    obtain ⟨hc40, hF⟩ := of_guard hF
    obtain ⟨hc42, hF⟩ := of_guard hF
    replace hf : Fr 137 a [(0, vI a0), (5, v5), (8, vI s18), (9, .pointer (some ((⟨g21, 0, none⟩ : Addr).add 0)))] := hf.sub ⟨rfl, rfl, rfl, rfl, trivial⟩
    refine c_drawL (h := 8) mixed (by kernel_rfl) (by kernel_rfl) (fun ρ w => Gd fI64 2 61 ρ w w0.heap.size 1 v5 f6 ((s19.set s18.toNat (gl 0 s19 (w64 (s18 + x30)))).set (w64 (s18 + x30)).toNat (gl 0 s19 s18)) s20 ∧ Va ρ w 5 g21 3 ([vI s22])) ?_ [fun ρ w v => vI a0 = v, fun ρ w v => v5 = v, fun ρ w v => vI s18 = v, fun ρ w v => ∃ ad41, .pointer (some (ad41.add (s18.toNat * 1))) = v ∧ (gl 0 ((s19.set s18.toNat (gl 0 s19 (w64 (s18 + x30)))).set (w64 (s18 + x30)).toNat (gl 0 s19 s18)) s18) < s20.length ∧ Ce ρ w 1 v5 (((s19.set s18.toNat (gl 0 s19 (w64 (s18 + x30)))).set (w64 (s18 + x30)).toNat (gl 0 s19 s18)).length) ad41 (s18.toNat * 1) ([(f6 (gl 0 ((s19.set s18.toNat (gl 0 s19 (w64 (s18 + x30)))).set (w64 (s18 + x30)).toNat (gl 0 s19 s18)) s18)).1]), fun ρ w v => (f6 (gl 0 ((s19.set s18.toNat (gl 0 s19 (w64 (s18 + x30)))).set (w64 (s18 + x30)).toNat (gl 0 s19 s18)) s18)).1 = v ∧ (gl 0 ((s19.set s18.toNat (gl 0 s19 (w64 (s18 + x30)))).set (w64 (s18 + x30)).toNat (gl 0 s19 s18)) s18) < s20.length, fun ρ w v => vI s22 = v, fun ρ w v => ∃ ad43, .pointer (some (ad43.add (s22.toNat * 1))) = v ∧ Ce ρ w (lab 1 (gl 0 ((s19.set s18.toNat (gl 0 s19 (w64 (s18 + x30)))).set (w64 (s18 + x30)).toNat (gl 0 s19 s18)) s18)) ((f6 (gl 0 ((s19.set s18.toNat (gl 0 s19 (w64 (s18 + x30)))).set (w64 (s18 + x30)).toNat (gl 0 s19 s18)) s18)).1) ((s20.getD (gl 0 ((s19.set s18.toNat (gl 0 s19 (w64 (s18 + x30)))).set (w64 (s18 + x30)).toNat (gl 0 s19 s18)) s18) []).length) ad43 (s22.toNat * 1) (fI64.enc (gl 0 (s20.getD (gl 0 ((s19.set s18.toNat (gl 0 s19 (w64 (s18 + x30)))).set (w64 (s18 + x30)).toNat (gl 0 s19 s18)) s18) []) s22)), fun ρ w v => vI (gl 0 (s20.getD (gl 0 ((s19.set s18.toNat (gl 0 s19 (w64 (s18 + x30)))).set (w64 (s18 + x30)).toNat (gl 0 s19 s18)) s18) []) s22) = v] ?_ hw ⟨o1, o5⟩ hf ?_ ?_
    · intro ρ w ρ' w' hE hG
      obtain ⟨o1, o5⟩ := hG
      exact ⟨o1.ext hE, o5.ext hE⟩
    · exact LastsL.cons (fun _ _ _ _ _ _ h => h) <| LastsL.cons (fun _ _ _ _ _ _ h => h) <| LastsL.cons (fun _ _ _ _ _ _ h => h) <| LastsL.cons (fun _ _ _ _ _ hE h => by obtain ⟨ad41, h, hn41, hl41⟩ := h; exact ⟨_, h, hn41, hl41.ext hE⟩) <| LastsL.cons (fun _ _ _ _ _ hE h => by obtain ⟨h, hn41⟩ := h; exact ⟨h, hn41⟩) <| LastsL.cons (fun _ _ _ _ _ _ h => h) <| LastsL.cons (fun _ _ _ _ _ hE h => by obtain ⟨ad43, h, hl43⟩ := h; exact ⟨_, h, hl43.ext hE⟩) <| LastsL.cons (fun _ _ _ _ _ _ h => h) <| LastsL.nil
    · refine StepsB.cons ?_ <| StepsB.cons ?_ <| StepsB.cons ?_ <| StepsB.cons ?_ <| StepsB.cons ?_ <| StepsB.cons ?_ <| StepsB.cons ?_ <| StepsB.cons ?_ <| StepsB.nil
      · intro ρ w a hw hG hf hd K hK
        obtain ⟨o1, o5⟩ := hG
        exact dv_ hK hw (wn rfl) (r_move hf rfl) rfl
      · intro ρ w a hw hG hf hd K hK
        obtain ⟨o1, o5⟩ := hG
        exact dv_ hK hw (wn rfl) (r_move hf rfl) rfl
      · intro ρ w a hw hG hf hd K hK
        obtain ⟨o1, o5⟩ := hG
        exact dv_ hK hw (wn rfl) (r_move hf rfl) rfl
      · intro ρ w a hw hG hf hd K hK
        obtain ⟨o1, o5⟩ := hG
        obtain ⟨_, hf, rfl⟩ := got (hd 1 (by kernel_rfl)) hf
        obtain ⟨_, hf, rfl⟩ := got (hd 2 (by kernel_rfl)) hf
        obtain ⟨ad41, hl41⟩ := Ow.ce (d := fRef f6) o1.out 0 hc40.1 hc40.2
        have hn41 := o1.lt_gl hc40.1 hc40.2
        exact dv_ hK hw (wn rfl) (r_idx Try.underlying44 sz61 hf rfl hl41.at_ rfl hc40.1 hc40.2) (ex_ <| an_ rfl <| an_ hn41 <| hl41)
      · intro ρ w a hw hG hf hd K hK
        obtain ⟨o1, o5⟩ := hG
        obtain ⟨_, hf, ⟨ad41, rfl, hn41, hl41⟩⟩ := got (hd 3 (by kernel_rfl)) hf
        exact dv_ hK hw (wn rfl) (r_load_cell ty61 hf rfl hl41.co.cl) (an_ rfl <| hn41)
      · intro ρ w a hw hG hf hd K hK
        obtain ⟨o1, o5⟩ := hG
        exact dv_ hK hw (wn rfl) (r_load_cell ty3 hf rfl o5.cl) rfl
      · intro ρ w a hw hG hf hd K hK
        obtain ⟨o1, o5⟩ := hG
        obtain ⟨_, hf, ⟨rfl, hn41⟩⟩ := got (hd 4 (by kernel_rfl)) hf
        obtain ⟨_, hf, rfl⟩ := got (hd 5 (by kernel_rfl)) hf
        obtain ⟨ad43, hl43⟩ := Ow.ce (d := fI64) (o1.rowAt hn41) 0 hc42.1 hc42.2
        exact dv_ hK hw (wn rfl) (r_idx Try.underlying61 sz2 hf rfl hl43.at_ rfl hc42.1 hc42.2) (ex_ <| an_ rfl <| hl43)
      · intro ρ w a hw hG hf hd K hK
        obtain ⟨o1, o5⟩ := hG
        obtain ⟨_, hf, ⟨ad43, rfl, hl43⟩⟩ := got (hd 6 (by kernel_rfl)) hf
        exact dv_ hK hw (wn rfl) (r_load_cell ty2 hf rfl hl43.co.cl) rfl
    intro ρ w a hw hG hf hd
    obtain ⟨o1, o5⟩ := hG
    obtain ⟨_, hf, rfl⟩ := got (hd 0 (by decide)) hf
    obtain ⟨_, hf, rfl⟩ := got (hd 7 (by decide)) hf
    obtain ⟨x44, hx45, hF⟩ := of_bind hF
    refine st_fn 22 hw hf rfl rfl (by decide) (r_fn en143 hf rfl) (impl_inverse_ok  hx45) fun a v w ρ hf hw hE hN hΦ => ?_
    obtain rfl := hΦ
    replace o1 := o1.ext hE
    replace o5 := o5.ext hE
    refine s_ hf (r_assign hf rfl) fun a hf => ?_
    refine c_nt <| c_seq <| c_seq <| c_region ?_
    refine s_ hf (r_move hf rfl) fun a hf => ?_
    refine s_ hf (r_add hf rfl rfl) fun a hf => ?_
    refine s_ hf (r_assign hf rfl) fun a hf => ?_
    refine c_nt ?_
    obtain ⟨ol46, ho46, hG46⟩ := of_bind hF
    clear hF
    refine c_block (c_loop (id := 4) (fun s => impl_rank_l46 a0 s18 s19 s22 x30 x44 s.1 s.2) (fun (s : Int × (List (List Int))) a w => match s with | (s47, s48) => ∃ ρ, Wd w0 ρ w ∧ Fr 137 a [(0, vI a0), (5, v5), (8, vI s18), (9, .pointer (some ((⟨g21, 0, none⟩ : Addr).add 0))), (11, vI x44), (12, vI s47)] ∧ Gd fI64 2 61 ρ w w0.heap.size 1 v5 f6 ((s19.set s18.toNat (gl 0 s19 (w64 (s18 + x30)))).set (w64 (s18 + x30)).toNat (gl 0 s19 s18)) s48 ∧ Va ρ w 5 g21 3 ([vI s22])) (fun (s : Int × (List (List Int))) a w => match s with | (s47, s48) => ∃ ρ, Wd w0 ρ w ∧ Fr 137 a [(0, vI a0), (5, v5), (8, vI s18), (9, .pointer (some ((⟨g21, 0, none⟩ : Addr).add 0)))] ∧ Gd fI64 2 61 ρ w w0.heap.size 1 v5 f6 ((s19.set s18.toNat (gl 0 s19 (w64 (s18 + x30)))).set (w64 (s18 + x30)).toNat (gl 0 s19 s18)) s48 ∧ Va ρ w 5 g21 3 ([vI s22])) ho46 ⟨_, hw, hf.sub ⟨rfl, rfl, rfl, rfl, rfl, rfl, trivial⟩, o1, o5⟩ ?_ ?_)
    · rintro ⟨s47, s48⟩ lr a w ⟨ρ, hw, hf, o1, o5⟩ hF
      replace hF : impl_rank_l46 a0 s18 s19 s22 x30 x44 s47 s48 = some lr := hF
      unfold impl_rank_l46 at hF
      refine c_seq <| c_seq <| c_region ?_
      refine s_ hf (r_move hf rfl) fun a hf => ?_
      refine s_ hf (r_move hf rfl) fun a hf => ?_
      refine s_ hf (r_len Try.underlying44 o1.out.ro hf rfl) fun a hf => ?_
      refine s_ hf (r_lss hf rfl rfl) fun a hf => ?_
      refine c_nt ?_
      rcases of_ite hF with ⟨hb49, hF⟩ | ⟨hb49, hF⟩
      rotate_left
      · refine c_iff hf rfl hb49 <| c_exit <| x_then ?_
        obtain rfl := Option.some.inj hF
        exact Rnd.stops ⟨_, hw, hf.sub ⟨rfl, rfl, rfl, rfl, trivial⟩, o1, o5⟩
      refine c_ift hf rfl hb49 <| c_skip <| n_then <| c_seq <| c_block <| c_seq ?_
      obtain ⟨hc50, hF⟩ := of_guard hF
      obtain ⟨hc52, hF⟩ := of_guard hF
      replace hf : Fr 137 a [(0, vI a0), (5, v5), (8, vI s18), (9, .pointer (some ((⟨g21, 0, none⟩ : Addr).add 0))), (11, vI x44), (12, vI s47)] := hf.sub ⟨rfl, rfl, rfl, rfl, rfl, rfl, trivial⟩
      refine c_drawL (h := 10) mixed (by kernel_rfl) (by kernel_rfl) (fun ρ w => Gd fI64 2 61 ρ w w0.heap.size 1 v5 f6 ((s19.set s18.toNat (gl 0 s19 (w64 (s18 + x30)))).set (w64 (s18 + x30)).toNat (gl 0 s19 s18)) s48 ∧ Va ρ w 5 g21 3 ([vI s22])) ?_ [fun ρ w v => v5 = v, fun ρ w v => vI s47 = v, fun ρ w v => ∃ ad51, .pointer (some (ad51.add (s47.toNat * 1))) = v ∧ (gl 0 ((s19.set s18.toNat (gl 0 s19 (w64 (s18 + x30)))).set (w64 (s18 + x30)).toNat (gl 0 s19 s18)) s47) < s48.length ∧ Ce ρ w 1 v5 (((s19.set s18.toNat (gl 0 s19 (w64 (s18 + x30)))).set (w64 (s18 + x30)).toNat (gl 0 s19 s18)).length) ad51 (s47.toNat * 1) ([(f6 (gl 0 ((s19.set s18.toNat (gl 0 s19 (w64 (s18 + x30)))).set (w64 (s18 + x30)).toNat (gl 0 s19 s18)) s47)).1]), fun ρ w v => (f6 (gl 0 ((s19.set s18.toNat (gl 0 s19 (w64 (s18 + x30)))).set (w64 (s18 + x30)).toNat (gl 0 s19 s18)) s47)).1 = v ∧ (gl 0 ((s19.set s18.toNat (gl 0 s19 (w64 (s18 + x30)))).set (w64 (s18 + x30)).toNat (gl 0 s19 s18)) s47) < s48.length, fun ρ w v => vI s22 = v, fun ρ w v => ∃ ad53, .pointer (some (ad53.add (s22.toNat * 1))) = v ∧ Ce ρ w (lab 1 (gl 0 ((s19.set s18.toNat (gl 0 s19 (w64 (s18 + x30)))).set (w64 (s18 + x30)).toNat (gl 0 s19 s18)) s47)) ((f6 (gl 0 ((s19.set s18.toNat (gl 0 s19 (w64 (s18 + x30)))).set (w64 (s18 + x30)).toNat (gl 0 s19 s18)) s47)).1) ((s48.getD (gl 0 ((s19.set s18.toNat (gl 0 s19 (w64 (s18 + x30)))).set (w64 (s18 + x30)).toNat (gl 0 s19 s18)) s47) []).length) ad53 (s22.toNat * 1) (fI64.enc (gl 0 (s48.getD (gl 0 ((s19.set s18.toNat (gl 0 s19 (w64 (s18 + x30)))).set (w64 (s18 + x30)).toNat (gl 0 s19 s18)) s47) []) s22)), fun ρ w v => vI (gl 0 (s48.getD (gl 0 ((s19.set s18.toNat (gl 0 s19 (w64 (s18 + x30)))).set (w64 (s18 + x30)).toNat (gl 0 s19 s18)) s47) []) s22) = v, fun ρ w v => vI x44 = v, fun ρ w v => vI (w64 ((gl 0 (s48.getD (gl 0 ((s19.set s18.toNat (gl 0 s19 (w64 (s18 + x30)))).set (w64 (s18 + x30)).toNat (gl 0 s19 s18)) s47) []) s22) * x44)) = v, fun ρ w v => vI a0 = v] ?_ hw ⟨o1, o5⟩ hf ?_ ?_
      · intro ρ w ρ' w' hE hG
        obtain ⟨o1, o5⟩ := hG
        exact ⟨o1.ext hE, o5.ext hE⟩
      · exact LastsL.cons (fun _ _ _ _ _ _ h => h) <| LastsL.cons (fun _ _ _ _ _ _ h => h) <| LastsL.cons (fun _ _ _ _ _ hE h => by obtain ⟨ad51, h, hn51, hl51⟩ := h; exact ⟨_, h, hn51, hl51.ext hE⟩) <| LastsL.cons (fun _ _ _ _ _ hE h => by obtain ⟨h, hn51⟩ := h; exact ⟨h, hn51⟩) <| LastsL.cons (fun _ _ _ _ _ _ h => h) <| LastsL.cons (fun _ _ _ _ _ hE h => by obtain ⟨ad53, h, hl53⟩ := h; exact ⟨_, h, hl53.ext hE⟩) <| LastsL.cons (fun _ _ _ _ _ _ h => h) <| LastsL.cons (fun _ _ _ _ _ _ h => h) <| LastsL.cons (fun _ _ _ _ _ _ h => h) <| LastsL.cons (fun _ _ _ _ _ _ h => h) <| LastsL.nil
      · refine StepsB.cons ?_ <| StepsB.cons ?_ <| StepsB.cons ?_ <| StepsB.cons ?_ <| StepsB.cons ?_ <| StepsB.cons ?_ <| StepsB.cons ?_ <| StepsB.cons ?_ <| StepsB.cons ?_ <| StepsB.cons ?_ <| StepsB.nil
        · intro ρ w a hw hG hf hd K hK
          obtain ⟨o1, o5⟩ := hG
          exact dv_ hK hw (wn rfl) (r_move hf rfl) rfl
        · intro ρ w a hw hG hf hd K hK
          obtain ⟨o1, o5⟩ := hG
          exact dv_ hK hw (wn rfl) (r_move hf rfl) rfl
        · intro ρ w a hw hG hf hd K hK
          obtain ⟨o1, o5⟩ := hG
          obtain ⟨_, hf, rfl⟩ := got (hd 0 (by kernel_rfl)) hf
          obtain ⟨_, hf, rfl⟩ := got (hd 1 (by kernel_rfl)) hf
          obtain ⟨ad51, hl51⟩ := Ow.ce (d := fRef f6) o1.out 0 hc50.1 hc50.2
          have hn51 := o1.lt_gl hc50.1 hc50.2
          exact dv_ hK hw (wn rfl) (r_idx Try.underlying44 sz61 hf rfl hl51.at_ rfl hc50.1 hc50.2) (ex_ <| an_ rfl <| an_ hn51 <| hl51)
        · intro ρ w a hw hG hf hd K hK
          obtain ⟨o1, o5⟩ := hG
          obtain ⟨_, hf, ⟨ad51, rfl, hn51, hl51⟩⟩ := got (hd 2 (by kernel_rfl)) hf
          exact dv_ hK hw (wn rfl) (r_load_cell ty61 hf rfl hl51.co.cl) (an_ rfl <| hn51)
        · intro ρ w a hw hG hf hd K hK
          obtain ⟨o1, o5⟩ := hG
          exact dv_ hK hw (wn rfl) (r_load_cell ty3 hf rfl o5.cl) rfl
        · intro ρ w a hw hG hf hd K hK
          obtain ⟨o1, o5⟩ := hG
          obtain ⟨_, hf, ⟨rfl, hn51⟩⟩ := got (hd 3 (by kernel_rfl)) hf
          obtain ⟨_, hf, rfl⟩ := got (hd 4 (by kernel_rfl)) hf
          obtain ⟨ad53, hl53⟩ := Ow.ce (d := fI64) (o1.rowAt hn51) 0 hc52.1 hc52.2
          exact dv_ hK hw (wn rfl) (r_idx Try.underlying61 sz2 hf rfl hl53.at_ rfl hc52.1 hc52.2) (ex_ <| an_ rfl <| hl53)
        · intro ρ w a hw hG hf hd K hK
          obtain ⟨o1, o5⟩ := hG
          obtain ⟨_, hf, ⟨ad53, rfl, hl53⟩⟩ := got (hd 5 (by kernel_rfl)) hf
          exact dv_ hK hw (wn rfl) (r_load_cell ty2 hf rfl hl53.co.cl) rfl
        · intro ρ w a hw hG hf hd K hK
          obtain ⟨o1, o5⟩ := hG
          exact dv_ hK hw (wn rfl) (r_move hf rfl) rfl
        · intro ρ w a hw hG hf hd K hK
          obtain ⟨o1, o5⟩ := hG
          obtain ⟨_, hf, rfl⟩ := got (hd 6 (by kernel_rfl)) hf
          obtain ⟨_, hf, rfl⟩ := got (hd 7 (by kernel_rfl)) hf
          exact dv_ hK hw (wn rfl) (r_mul hf rfl rfl) rfl
        · intro ρ w a hw hG hf hd K hK
          obtain ⟨o1, o5⟩ := hG
          exact dv_ hK hw (wn rfl) (r_move hf rfl) rfl
      intro ρ w a hw hG hf hd
      obtain ⟨o1, o5⟩ := hG
      obtain ⟨_, hf, rfl⟩ := got (hd 8 (by decide)) hf
      obtain ⟨_, hf, rfl⟩ := got (hd 9 (by decide)) hf
      obtain ⟨hc54, hF⟩ := of_guard hF
      refine s_ hf (r_rem hf rfl rfl hc54) fun a hf => ?_
      refine s_ hf (r_assign hf rfl) fun a hf => ?_
      refine c_nt <| c_seq <| c_region ?_
      refine s_ hf (r_move hf rfl) fun a hf => ?_
      refine s_ hf (r_move hf rfl) fun a hf => ?_
      obtain ⟨ad55, hl55⟩ := Ow.ce (d := fRef f6) o1.out 0 hc50.1 hc50.2
      have hn55 := o1.lt_gl hc50.1 hc50.2
      refine s_ hf (r_idx Try.underlying44 sz61 hf rfl hl55.at_ rfl hc50.1 hc50.2) fun a hf => ?_
      refine s_ hf (r_load_cell ty61 hf rfl hl55.co.cl) fun a hf => ?_
      refine s_ hf (r_len Try.underlying61 ((o1.rowAt hn55).ro) hf rfl) fun a hf => ?_
      refine s_ hf (r_move hf rfl) fun a hf => ?_
      refine c_nt ?_
      obtain ⟨ol56, ho56, hG56⟩ := of_bind hF
      clear hF
      refine c_block (c_loop (id := 6) (fun s => impl_rank_l56 a0 s18 s19 s22 x30 x44 s47 s48 s.1 s.2) (fun (s : Int × (List (List Int))) a w => match s with | (s57, s58) => ∃ ρ, Wd w0 ρ w ∧ Fr 137 a [(0, vI a0), (5, v5), (8, vI s18), (9, .pointer (some ((⟨g21, 0, none⟩ : Addr).add 0))), (11, vI x44), (12, vI s47), (13, vI ((w64 ((gl 0 (s48.getD (gl 0 ((s19.set s18.toNat (gl 0 s19 (w64 (s18 + x30)))).set (w64 (s18 + x30)).toNat (gl 0 s19 s18)) s47) []) s22) * x44)).tmod a0)), (99, vI ((s48.getD (gl 0 ((s19.set s18.toNat (gl 0 s19 (w64 (s18 + x30)))).set (w64 (s18 + x30)).toNat (gl 0 s19 s18)) s47) []).length : Int)), (100, vI s57)] ∧ Gd fI64 2 61 ρ w w0.heap.size 1 v5 f6 ((s19.set s18.toNat (gl 0 s19 (w64 (s18 + x30)))).set (w64 (s18 + x30)).toNat (gl 0 s19 s18)) s58 ∧ Va ρ w 5 g21 3 ([vI s22])) (fun (s : Int × (List (List Int))) a w => match s with | (s57, s58) => ∃ ρ, Wd w0 ρ w ∧ Fr 137 a [(0, vI a0), (5, v5), (8, vI s18), (9, .pointer (some ((⟨g21, 0, none⟩ : Addr).add 0))), (11, vI x44), (12, vI s47)] ∧ Gd fI64 2 61 ρ w w0.heap.size 1 v5 f6 ((s19.set s18.toNat (gl 0 s19 (w64 (s18 + x30)))).set (w64 (s18 + x30)).toNat (gl 0 s19 s18)) s58 ∧ Va ρ w 5 g21 3 ([vI s22])) ho56 ⟨_, hw, hf.sub ⟨rfl, rfl, rfl, rfl, rfl, rfl, rfl, rfl, rfl, trivial⟩, o1, o5⟩ ?_ ?_)
      · rintro ⟨s57, s58⟩ lr a w ⟨ρ, hw, hf, o1, o5⟩ hF
        replace hF : impl_rank_l56 a0 s18 s19 s22 x30 x44 s47 s48 s57 s58 = some lr := hF
        unfold impl_rank_l56 at hF
        refine c_seq <| c_region ?_
        refine s_ hf (r_lss hf rfl rfl) fun a hf => ?_
        refine c_nt <| c_seq ?_
        rcases of_ite hF with ⟨hb59, hF⟩ | ⟨hb59, hF⟩
        rotate_left
        · refine c_iff hf rfl hb59 <| c_exit <| x_then ?_
          obtain rfl := Option.some.inj hF
          exact Rnd.stops ⟨_, hw, hf.sub ⟨rfl, rfl, rfl, rfl, rfl, rfl, trivial⟩, o1, o5⟩
        refine c_ift hf rfl hb59 <| c_skip <| n_then <| c_seq <| c_block <| c_seq <| c_region ?_
        refine s_ hf (r_move hf rfl) fun a hf => ?_
        refine s_ hf (r_assign hf rfl) fun a hf => ?_
        refine c_nt ?_
        obtain ⟨hc62, hF⟩ := of_guard hF
        obtain ⟨hc65, hF⟩ := of_guard hF
        replace hf : Fr 137 a [(0, vI a0), (5, v5), (8, vI s18), (9, .pointer (some ((⟨g21, 0, none⟩ : Addr).add 0))), (11, vI x44), (12, vI s47), (13, vI ((w64 ((gl 0 (s48.getD (gl 0 ((s19.set s18.toNat (gl 0 s19 (w64 (s18 + x30)))).set (w64 (s18 + x30)).toNat (gl 0 s19 s18)) s47) []) s22) * x44)).tmod a0)), (14, vI s57), (99, vI ((s48.getD (gl 0 ((s19.set s18.toNat (gl 0 s19 (w64 (s18 + x30)))).set (w64 (s18 + x30)).toNat (gl 0 s19 s18)) s47) []).length : Int)), (100, vI s57)] := hf.sub ⟨rfl, rfl, rfl, rfl, rfl, rfl, rfl, rfl, rfl, rfl, trivial⟩
        refine c_drawL (h := 28) mixed (by kernel_rfl) (by kernel_rfl) (fun ρ w => Gd fI64 2 61 ρ w w0.heap.size 1 v5 f6 ((s19.set s18.toNat (gl 0 s19 (w64 (s18 + x30)))).set (w64 (s18 + x30)).toNat (gl 0 s19 s18)) s58 ∧ Va ρ w 5 g21 3 ([vI s22])) ?_ [fun ρ w v => v5 = v, fun ρ w v => vI s47 = v, fun ρ w v => ∃ ad60, .pointer (some (ad60.add (s47.toNat * 1))) = v ∧ (gl 0 ((s19.set s18.toNat (gl 0 s19 (w64 (s18 + x30)))).set (w64 (s18 + x30)).toNat (gl 0 s19 s18)) s47) < s58.length ∧ Ce ρ w 1 v5 (((s19.set s18.toNat (gl 0 s19 (w64 (s18 + x30)))).set (w64 (s18 + x30)).toNat (gl 0 s19 s18)).length) ad60 (s47.toNat * 1) ([(f6 (gl 0 ((s19.set s18.toNat (gl 0 s19 (w64 (s18 + x30)))).set (w64 (s18 + x30)).toNat (gl 0 s19 s18)) s47)).1]), fun ρ w v => (f6 (gl 0 ((s19.set s18.toNat (gl 0 s19 (w64 (s18 + x30)))).set (w64 (s18 + x30)).toNat (gl 0 s19 s18)) s47)).1 = v ∧ (gl 0 ((s19.set s18.toNat (gl 0 s19 (w64 (s18 + x30)))).set (w64 (s18 + x30)).toNat (gl 0 s19 s18)) s47) < s58.length, fun ρ w v => vI s57 = v, fun ρ w v => v5 = v, fun ρ w v => vI s47 = v, fun ρ w v => ∃ ad61, .pointer (some (ad61.add (s47.toNat * 1))) = v ∧ (gl 0 ((s19.set s18.toNat (gl 0 s19 (w64 (s18 + x30)))).set (w64 (s18 + x30)).toNat (gl 0 s19 s18)) s47) < s58.length ∧ Ce ρ w 1 v5 (((s19.set s18.toNat (gl 0 s19 (w64 (s18 + x30)))).set (w64 (s18 + x30)).toNat (gl 0 s19 s18)).length) ad61 (s47.toNat * 1) ([(f6 (gl 0 ((s19.set s18.toNat (gl 0 s19 (w64 (s18 + x30)))).set (w64 (s18 + x30)).toNat (gl 0 s19 s18)) s47)).1]), fun ρ w v => (f6 (gl 0 ((s19.set s18.toNat (gl 0 s19 (w64 (s18 + x30)))).set (w64 (s18 + x30)).toNat (gl 0 s19 s18)) s47)).1 = v ∧ (gl 0 ((s19.set s18.toNat (gl 0 s19 (w64 (s18 + x30)))).set (w64 (s18 + x30)).toNat (gl 0 s19 s18)) s47) < s58.length, fun ρ w v => vI s57 = v, fun ρ w v => ∃ ad63, .pointer (some (ad63.add (s57.toNat * 1))) = v ∧ Ce ρ w (lab 1 (gl 0 ((s19.set s18.toNat (gl 0 s19 (w64 (s18 + x30)))).set (w64 (s18 + x30)).toNat (gl 0 s19 s18)) s47)) ((f6 (gl 0 ((s19.set s18.toNat (gl 0 s19 (w64 (s18 + x30)))).set (w64 (s18 + x30)).toNat (gl 0 s19 s18)) s47)).1) ((s58.getD (gl 0 ((s19.set s18.toNat (gl 0 s19 (w64 (s18 + x30)))).set (w64 (s18 + x30)).toNat (gl 0 s19 s18)) s47) []).length) ad63 (s57.toNat * 1) (fI64.enc (gl 0 (s58.getD (gl 0 ((s19.set s18.toNat (gl 0 s19 (w64 (s18 + x30)))).set (w64 (s18 + x30)).toNat (gl 0 s19 s18)) s47) []) s57)), fun ρ w v => vI (gl 0 (s58.getD (gl 0 ((s19.set s18.toNat (gl 0 s19 (w64 (s18 + x30)))).set (w64 (s18 + x30)).toNat (gl 0 s19 s18)) s47) []) s57) = v, fun ρ w v => vI ((w64 ((gl 0 (s48.getD (gl 0 ((s19.set s18.toNat (gl 0 s19 (w64 (s18 + x30)))).set (w64 (s18 + x30)).toNat (gl 0 s19 s18)) s47) []) s22) * x44)).tmod a0) = v, fun ρ w v => v5 = v, fun ρ w v => vI s18 = v, fun ρ w v => ∃ ad64, .pointer (some (ad64.add (s18.toNat * 1))) = v ∧ (gl 0 ((s19.set s18.toNat (gl 0 s19 (w64 (s18 + x30)))).set (w64 (s18 + x30)).toNat (gl 0 s19 s18)) s18) < s58.length ∧ Ce ρ w 1 v5 (((s19.set s18.toNat (gl 0 s19 (w64 (s18 + x30)))).set (w64 (s18 + x30)).toNat (gl 0 s19 s18)).length) ad64 (s18.toNat * 1) ([(f6 (gl 0 ((s19.set s18.toNat (gl 0 s19 (w64 (s18 + x30)))).set (w64 (s18 + x30)).toNat (gl 0 s19 s18)) s18)).1]), fun ρ w v => (f6 (gl 0 ((s19.set s18.toNat (gl 0 s19 (w64 (s18 + x30)))).set (w64 (s18 + x30)).toNat (gl 0 s19 s18)) s18)).1 = v ∧ (gl 0 ((s19.set s18.toNat (gl 0 s19 (w64 (s18 + x30)))).set (w64 (s18 + x30)).toNat (gl 0 s19 s18)) s18) < s58.length, fun ρ w v => vI s57 = v, fun ρ w v => ∃ ad66, .pointer (some (ad66.add (s57.toNat * 1))) = v ∧ Ce ρ w (lab 1 (gl 0 ((s19.set s18.toNat (gl 0 s19 (w64 (s18 + x30)))).set (w64 (s18 + x30)).toNat (gl 0 s19 s18)) s18)) ((f6 (gl 0 ((s19.set s18.toNat (gl 0 s19 (w64 (s18 + x30)))).set (w64 (s18 + x30)).toNat (gl 0 s19 s18)) s18)).1) ((s58.getD (gl 0 ((s19.set s18.toNat (gl 0 s19 (w64 (s18 + x30)))).set (w64 (s18 + x30)).toNat (gl 0 s19 s18)) s18) []).length) ad66 (s57.toNat * 1) (fI64.enc (gl 0 (s58.getD (gl 0 ((s19.set s18.toNat (gl 0 s19 (w64 (s18 + x30)))).set (w64 (s18 + x30)).toNat (gl 0 s19 s18)) s18) []) s57)), fun ρ w v => vI (gl 0 (s58.getD (gl 0 ((s19.set s18.toNat (gl 0 s19 (w64 (s18 + x30)))).set (w64 (s18 + x30)).toNat (gl 0 s19 s18)) s18) []) s57) = v, fun ρ w v => vI (w64 (((w64 ((gl 0 (s48.getD (gl 0 ((s19.set s18.toNat (gl 0 s19 (w64 (s18 + x30)))).set (w64 (s18 + x30)).toNat (gl 0 s19 s18)) s47) []) s22) * x44)).tmod a0) * (gl 0 (s58.getD (gl 0 ((s19.set s18.toNat (gl 0 s19 (w64 (s18 + x30)))).set (w64 (s18 + x30)).toNat (gl 0 s19 s18)) s18) []) s57))) = v, fun ρ w v => vI (w64 ((gl 0 (s58.getD (gl 0 ((s19.set s18.toNat (gl 0 s19 (w64 (s18 + x30)))).set (w64 (s18 + x30)).toNat (gl 0 s19 s18)) s47) []) s57) - (w64 (((w64 ((gl 0 (s48.getD (gl 0 ((s19.set s18.toNat (gl 0 s19 (w64 (s18 + x30)))).set (w64 (s18 + x30)).toNat (gl 0 s19 s18)) s47) []) s22) * x44)).tmod a0) * (gl 0 (s58.getD (gl 0 ((s19.set s18.toNat (gl 0 s19 (w64 (s18 + x30)))).set (w64 (s18 + x30)).toNat (gl 0 s19 s18)) s18) []) s57))))) = v, fun ρ w v => vI a0 = v, fun ρ w v => vI ((w64 ((gl 0 (s58.getD (gl 0 ((s19.set s18.toNat (gl 0 s19 (w64 (s18 + x30)))).set (w64 (s18 + x30)).toNat (gl 0 s19 s18)) s47) []) s57) - (w64 (((w64 ((gl 0 (s48.getD (gl 0 ((s19.set s18.toNat (gl 0 s19 (w64 (s18 + x30)))).set (w64 (s18 + x30)).toNat (gl 0 s19 s18)) s47) []) s22) * x44)).tmod a0) * (gl 0 (s58.getD (gl 0 ((s19.set s18.toNat (gl 0 s19 (w64 (s18 + x30)))).set (w64 (s18 + x30)).toNat (gl 0 s19 s18)) s18) []) s57))))).tmod a0) = v, fun ρ w v => vI a0 = v, fun ρ w v => vI (w64 (((w64 ((gl 0 (s58.getD (gl 0 ((s19.set s18.toNat (gl 0 s19 (w64 (s18 + x30)))).set (w64 (s18 + x30)).toNat (gl 0 s19 s18)) s47) []) s57) - (w64 (((w64 ((gl 0 (s48.getD (gl 0 ((s19.set s18.toNat (gl 0 s19 (w64 (s18 + x30)))).set (w64 (s18 + x30)).toNat (gl 0 s19 s18)) s47) []) s22) * x44)).tmod a0) * (gl 0 (s58.getD (gl 0 ((s19.set s18.toNat (gl 0 s19 (w64 (s18 + x30)))).set (w64 (s18 + x30)).toNat (gl 0 s19 s18)) s18) []) s57))))).tmod a0) + a0)) = v, fun ρ w v => vI a0 = v, fun ρ w v => vI ((w64 (((w64 ((gl 0 (s58.getD (gl 0 ((s19.set s18.toNat (gl 0 s19 (w64 (s18 + x30)))).set (w64 (s18 + x30)).toNat (gl 0 s19 s18)) s47) []) s57) - (w64 (((w64 ((gl 0 (s48.getD (gl 0 ((s19.set s18.toNat (gl 0 s19 (w64 (s18 + x30)))).set (w64 (s18 + x30)).toNat (gl 0 s19 s18)) s47) []) s22) * x44)).tmod a0) * (gl 0 (s58.getD (gl 0 ((s19.set s18.toNat (gl 0 s19 (w64 (s18 + x30)))).set (w64 (s18 + x30)).toNat (gl 0 s19 s18)) s18) []) s57))))).tmod a0) + a0)).tmod a0) = v] ?_ hw ⟨o1, o5⟩ hf ?_ ?_
        · intro ρ w ρ' w' hE hG
          obtain ⟨o1, o5⟩ := hG
          exact ⟨o1.ext hE, o5.ext hE⟩
        · exact LastsL.cons (fun _ _ _ _ _ _ h => h) <| LastsL.cons (fun _ _ _ _ _ _ h => h) <| LastsL.cons (fun _ _ _ _ _ hE h => by obtain ⟨ad60, h, hn60, hl60⟩ := h; exact ⟨_, h, hn60, hl60.ext hE⟩) <| LastsL.cons (fun _ _ _ _ _ hE h => by obtain ⟨h, hn60⟩ := h; exact ⟨h, hn60⟩) <| LastsL.cons (fun _ _ _ _ _ _ h => h) <| LastsL.cons (fun _ _ _ _ _ _ h => h) <| LastsL.cons (fun _ _ _ _ _ _ h => h) <| LastsL.cons (fun _ _ _ _ _ hE h => by obtain ⟨ad61, h, hn61, hl61⟩ := h; exact ⟨_, h, hn61, hl61.ext hE⟩) <| LastsL.cons (fun _ _ _ _ _ hE h => by obtain ⟨h, hn61⟩ := h; exact ⟨h, hn61⟩) <| LastsL.cons (fun _ _ _ _ _ _ h => h) <| LastsL.cons (fun _ _ _ _ _ hE h => by obtain ⟨ad63, h, hl63⟩ := h; exact ⟨_, h, hl63.ext hE⟩) <| LastsL.cons (fun _ _ _ _ _ _ h => h) <| LastsL.cons (fun _ _ _ _ _ _ h => h) <| LastsL.cons (fun _ _ _ _ _ _ h => h) <| LastsL.cons (fun _ _ _ _ _ _ h => h) <| LastsL.cons (fun _ _ _ _ _ hE h => by obtain ⟨ad64, h, hn64, hl64⟩ := h; exact ⟨_, h, hn64, hl64.ext hE⟩) <| LastsL.cons (fun _ _ _ _ _ hE h => by obtain ⟨h, hn64⟩ := h; exact ⟨h, hn64⟩) <| LastsL.cons (fun _ _ _ _ _ _ h => h) <| LastsL.cons (fun _ _ _ _ _ hE h => by obtain ⟨ad66, h, hl66⟩ := h; exact ⟨_, h, hl66.ext hE⟩) <| LastsL.cons (fun _ _ _ _ _ _ h => h) <| LastsL.cons (fun _ _ _ _ _ _ h => h) <| LastsL.cons (fun _ _ _ _ _ _ h => h) <| LastsL.cons (fun _ _ _ _ _ _ h => h) <| LastsL.cons (fun _ _ _ _ _ _ h => h) <| LastsL.cons (fun _ _ _ _ _ _ h => h) <| LastsL.cons (fun _ _ _ _ _ _ h => h) <| LastsL.cons (fun _ _ _ _ _ _ h => h) <| LastsL.cons (fun _ _ _ _ _ _ h => h) <| LastsL.nil
        · refine StepsB.cons ?_ <| StepsB.cons ?_ <| StepsB.cons ?_ <| StepsB.cons ?_ <| StepsB.cons ?_ <| StepsB.cons ?_ <| StepsB.cons ?_ <| StepsB.cons ?_ <| StepsB.cons ?_ <| StepsB.cons ?_ <| StepsB.cons ?_ <| StepsB.cons ?_ <| StepsB.cons ?_ <| StepsB.cons ?_ <| StepsB.cons ?_ <| StepsB.cons ?_ <| StepsB.cons ?_ <| StepsB.cons ?_ <| StepsB.cons ?_ <| StepsB.cons ?_ <| StepsB.cons ?_ <| StepsB.cons ?_ <| StepsB.cons ?_ <| StepsB.cons ?_ <| StepsB.cons ?_ <| StepsB.cons ?_ <| StepsB.cons ?_ <| StepsB.cons ?_ <| StepsB.nil
          · intro ρ w a hw hG hf hd K hK
            obtain ⟨o1, o5⟩ := hG
            exact dv_ hK hw (wn rfl) (r_move hf rfl) rfl
          · intro ρ w a hw hG hf hd K hK
            obtain ⟨o1, o5⟩ := hG
            exact dv_ hK hw (wn rfl) (r_move hf rfl) rfl
          · intro ρ w a hw hG hf hd K hK
            obtain ⟨o1, o5⟩ := hG
            obtain ⟨_, hf, rfl⟩ := got (hd 0 (by kernel_rfl)) hf
            obtain ⟨_, hf, rfl⟩ := got (hd 1 (by kernel_rfl)) hf
            obtain ⟨ad60, hl60⟩ := Ow.ce (d := fRef f6) o1.out 0 hc50.1 hc50.2
            have hn60 := o1.lt_gl hc50.1 hc50.2
            exact dv_ hK hw (wn rfl) (r_idx Try.underlying44 sz61 hf rfl hl60.at_ rfl hc50.1 hc50.2) (ex_ <| an_ rfl <| an_ hn60 <| hl60)
          · intro ρ w a hw hG hf hd K hK
            obtain ⟨o1, o5⟩ := hG
            obtain ⟨_, hf, ⟨ad60, rfl, hn60, hl60⟩⟩ := got (hd 2 (by kernel_rfl)) hf
            exact dv_ hK hw (wn rfl) (r_load_cell ty61 hf rfl hl60.co.cl) (an_ rfl <| hn60)
          · intro ρ w a hw hG hf hd K hK
            obtain ⟨o1, o5⟩ := hG
            exact dv_ hK hw (wn rfl) (r_move hf rfl) rfl
          · intro ρ w a hw hG hf hd K hK
            obtain ⟨o1, o5⟩ := hG
            exact dv_ hK hw (wn rfl) (r_move hf rfl) rfl
          · intro ρ w a hw hG hf hd K hK
            obtain ⟨o1, o5⟩ := hG
            exact dv_ hK hw (wn rfl) (r_move hf rfl) rfl
          · intro ρ w a hw hG hf hd K hK
            obtain ⟨o1, o5⟩ := hG
            obtain ⟨_, hf, rfl⟩ := got (hd 5 (by kernel_rfl)) hf
            obtain ⟨_, hf, rfl⟩ := got (hd 6 (by kernel_rfl)) hf
            obtain ⟨ad61, hl61⟩ := Ow.ce (d := fRef f6) o1.out 0 hc50.1 hc50.2
            have hn61 := o1.lt_gl hc50.1 hc50.2
            exact dv_ hK hw (wn rfl) (r_idx Try.underlying44 sz61 hf rfl hl61.at_ rfl hc50.1 hc50.2) (ex_ <| an_ rfl <| an_ hn61 <| hl61)
          · intro ρ w a hw hG hf hd K hK
            obtain ⟨o1, o5⟩ := hG
            obtain ⟨_, hf, ⟨ad61, rfl, hn61, hl61⟩⟩ := got (hd 7 (by kernel_rfl)) hf
            exact dv_ hK hw (wn rfl) (r_load_cell ty61 hf rfl hl61.co.cl) (an_ rfl <| hn61)
          · intro ρ w a hw hG hf hd K hK
            obtain ⟨o1, o5⟩ := hG
            exact dv_ hK hw (wn rfl) (r_move hf rfl) rfl
          · intro ρ w a hw hG hf hd K hK
            obtain ⟨o1, o5⟩ := hG
            obtain ⟨_, hf, ⟨rfl, hn61⟩⟩ := got (hd 8 (by kernel_rfl)) hf
            obtain ⟨_, hf, rfl⟩ := got (hd 9 (by kernel_rfl)) hf
            obtain ⟨ad63, hl63⟩ := Ow.ce (d := fI64) (o1.rowAt hn61) 0 hc62.1 hc62.2
            exact dv_ hK hw (wn rfl) (r_idx Try.underlying61 sz2 hf rfl hl63.at_ rfl hc62.1 hc62.2) (ex_ <| an_ rfl <| hl63)
          · intro ρ w a hw hG hf hd K hK
            obtain ⟨o1, o5⟩ := hG
            obtain ⟨_, hf, ⟨ad63, rfl, hl63⟩⟩ := got (hd 10 (by kernel_rfl)) hf
            exact dv_ hK hw (wn rfl) (r_load_cell ty2 hf rfl hl63.co.cl) rfl
          · intro ρ w a hw hG hf hd K hK
            obtain ⟨o1, o5⟩ := hG
            exact dv_ hK hw (wn rfl) (r_move hf rfl) rfl
          · intro ρ w a hw hG hf hd K hK
            obtain ⟨o1, o5⟩ := hG
            exact dv_ hK hw (wn rfl) (r_move hf rfl) rfl
          · intro ρ w a hw hG hf hd K hK
            obtain ⟨o1, o5⟩ := hG
            exact dv_ hK hw (wn rfl) (r_move hf rfl) rfl
          · intro ρ w a hw hG hf hd K hK
            obtain ⟨o1, o5⟩ := hG
            obtain ⟨_, hf, rfl⟩ := got (hd 13 (by kernel_rfl)) hf
            obtain ⟨_, hf, rfl⟩ := got (hd 14 (by kernel_rfl)) hf
            obtain ⟨ad64, hl64⟩ := Ow.ce (d := fRef f6) o1.out 0 hc40.1 hc40.2
            have hn64 := o1.lt_gl hc40.1 hc40.2
            exact dv_ hK hw (wn rfl) (r_idx Try.underlying44 sz61 hf rfl hl64.at_ rfl hc40.1 hc40.2) (ex_ <| an_ rfl <| an_ hn64 <| hl64)
          · intro ρ w a hw hG hf hd K hK
            obtain ⟨o1, o5⟩ := hG
            obtain ⟨_, hf, ⟨ad64, rfl, hn64, hl64⟩⟩ := got (hd 15 (by kernel_rfl)) hf
            exact dv_ hK hw (wn rfl) (r_load_cell ty61 hf rfl hl64.co.cl) (an_ rfl <| hn64)
          · intro ρ w a hw hG hf hd K hK
            obtain ⟨o1, o5⟩ := hG
            exact dv_ hK hw (wn rfl) (r_move hf rfl) rfl
          · intro ρ w a hw hG hf hd K hK
            obtain ⟨o1, o5⟩ := hG
            obtain ⟨_, hf, ⟨rfl, hn64⟩⟩ := got (hd 16 (by kernel_rfl)) hf
            obtain ⟨_, hf, rfl⟩ := got (hd 17 (by kernel_rfl)) hf
            obtain ⟨ad66, hl66⟩ := Ow.ce (d := fI64) (o1.rowAt hn64) 0 hc65.1 hc65.2
            exact dv_ hK hw (wn rfl) (r_idx Try.underlying61 sz2 hf rfl hl66.at_ rfl hc65.1 hc65.2) (ex_ <| an_ rfl <| hl66)
          · intro ρ w a hw hG hf hd K hK
            obtain ⟨o1, o5⟩ := hG
            obtain ⟨_, hf, ⟨ad66, rfl, hl66⟩⟩ := got (hd 18 (by kernel_rfl)) hf
            exact dv_ hK hw (wn rfl) (r_load_cell ty2 hf rfl hl66.co.cl) rfl
          · intro ρ w a hw hG hf hd K hK
            obtain ⟨o1, o5⟩ := hG
            obtain ⟨_, hf, rfl⟩ := got (hd 12 (by kernel_rfl)) hf
            obtain ⟨_, hf, rfl⟩ := got (hd 19 (by kernel_rfl)) hf
            exact dv_ hK hw (wn rfl) (r_mul hf rfl rfl) rfl
          · intro ρ w a hw hG hf hd K hK
            obtain ⟨o1, o5⟩ := hG
            obtain ⟨_, hf, rfl⟩ := got (hd 11 (by kernel_rfl)) hf
            obtain ⟨_, hf, rfl⟩ := got (hd 20 (by kernel_rfl)) hf
            exact dv_ hK hw (wn rfl) (r_sub hf rfl rfl) rfl
          · intro ρ w a hw hG hf hd K hK
            obtain ⟨o1, o5⟩ := hG
            exact dv_ hK hw (wn rfl) (r_move hf rfl) rfl
          · intro ρ w a hw hG hf hd K hK
            obtain ⟨o1, o5⟩ := hG
            obtain ⟨_, hf, rfl⟩ := got (hd 21 (by kernel_rfl)) hf
            obtain ⟨_, hf, rfl⟩ := got (hd 22 (by kernel_rfl)) hf
            exact dv_ hK hw (wn rfl) (r_rem hf rfl rfl hc54) rfl
          · intro ρ w a hw hG hf hd K hK
            obtain ⟨o1, o5⟩ := hG
            exact dv_ hK hw (wn rfl) (r_move hf rfl) rfl
          · intro ρ w a hw hG hf hd K hK
            obtain ⟨o1, o5⟩ := hG
            obtain ⟨_, hf, rfl⟩ := got (hd 23 (by kernel_rfl)) hf
            obtain ⟨_, hf, rfl⟩ := got (hd 24 (by kernel_rfl)) hf
            exact dv_ hK hw (wn rfl) (r_add hf rfl rfl) rfl
          · intro ρ w a hw hG hf hd K hK
            obtain ⟨o1, o5⟩ := hG
            exact dv_ hK hw (wn rfl) (r_move hf rfl) rfl
          · intro ρ w a hw hG hf hd K hK
            obtain ⟨o1, o5⟩ := hG
            obtain ⟨_, hf, rfl⟩ := got (hd 25 (by kernel_rfl)) hf
            obtain ⟨_, hf, rfl⟩ := got (hd 26 (by kernel_rfl)) hf
            exact dv_ hK hw (wn rfl) (r_rem hf rfl rfl hc54) rfl
        intro ρ w a hw hG hf hd
        obtain ⟨o1, o5⟩ := hG
        obtain ⟨_, hf, ⟨rfl, hn60⟩⟩ := got (hd 3 (by decide)) hf
        obtain ⟨_, hf, rfl⟩ := got (hd 4 (by decide)) hf
        obtain ⟨_, hf, rfl⟩ := got (hd 27 (by decide)) hf
        obtain ⟨ad67, hl67⟩ := Ow.ce (d := fI64) (o1.rowAt hn60) 0 hc62.1 hc62.2
        refine s_ hf (r_idx Try.underlying61 sz2 hf rfl hl67.at_ rfl hc62.1 hc62.2) fun a hf => ?_
        refine sk_ hf (r_gcell (p := s57) (b := (w64 (((w64 ((gl 0 (s58.getD (gl 0 ((s19.set s18.toNat (gl 0 s19 (w64 (s18 + x30)))).set (w64 (s18 + x30)).toNat (gl 0 s19 s18)) s47) []) s57) - (w64 (((w64 ((gl 0 (s48.getD (gl 0 ((s19.set s18.toNat (gl 0 s19 (w64 (s18 + x30)))).set (w64 (s18 + x30)).toNat (gl 0 s19 s18)) s47) []) s22) * x44)).tmod a0) * (gl 0 (s58.getD (gl 0 ((s19.set s18.toNat (gl 0 s19 (w64 (s18 + x30)))).set (w64 (s18 + x30)).toNat (gl 0 s19 s18)) s18) []) s57))))).tmod a0) + a0)).tmod a0) 0 hw o1 hc62.1 hc62.2 (Lens.id _) hl67.at_ ty2 (by first | rfl | exact Nat.add_assoc _ _ _ | (simp only [Nat.add_assoc]; rfl)) hf rfl rfl rfl) fun a w hf hΦ => ?_
        obtain ⟨hw, hA, o1⟩ := hΦ
        replace o5 := o5.adv hA (by unfold lab; omega)
        replace hn60 : (gl 0 ((s19.set s18.toNat (gl 0 s19 (w64 (s18 + x30)))).set (w64 (s18 + x30)).toNat (gl 0 s19 s18)) s47) < (s58.set (gl 0 ((s19.set s18.toNat (gl 0 s19 (w64 (s18 + x30)))).set (w64 (s18 + x30)).toNat (gl 0 s19 s18)) s47) ((s58.getD (gl 0 ((s19.set s18.toNat (gl 0 s19 (w64 (s18 + x30)))).set (w64 (s18 + x30)).toNat (gl 0 s19 s18)) s47) []).set s57.toNat ((w64 (((w64 ((gl 0 (s58.getD (gl 0 ((s19.set s18.toNat (gl 0 s19 (w64 (s18 + x30)))).set (w64 (s18 + x30)).toNat (gl 0 s19 s18)) s47) []) s57) - (w64 (((w64 ((gl 0 (s48.getD (gl 0 ((s19.set s18.toNat (gl 0 s19 (w64 (s18 + x30)))).set (w64 (s18 + x30)).toNat (gl 0 s19 s18)) s47) []) s22) * x44)).tmod a0) * (gl 0 (s58.getD (gl 0 ((s19.set s18.toNat (gl 0 s19 (w64 (s18 + x30)))).set (w64 (s18 + x30)).toNat (gl 0 s19 s18)) s18) []) s57))))).tmod a0) + a0)).tmod a0))).length := by simp only [List.length_append, List.length_set]; omega
        refine c_nil <| n_block <| n_then <| c_region ?_
        refine s_ hf (r_add hf rfl rfl) fun a hf => ?_
        refine s_ hf (r_move hf rfl) fun a hf => ?_
        refine c_nil ?_
        obtain rfl := Option.some.inj hF
        exact Rnd.goes ⟨_, hw, hf.sub ⟨rfl, rfl, rfl, rfl, rfl, rfl, rfl, rfl, rfl, trivial⟩, o1, o5⟩
      rintro ⟨s57, s58⟩ a w hs ⟨ρ, hw, hf, o1, o5⟩
      subst hs
      have hF := hG56
      dsimp only at hF
      refine x_block <| n_block <| n_then <| c_region ?_
      refine s_ hf (r_move hf rfl) fun a hf => ?_
      refine s_ hf (r_add hf rfl rfl) fun a hf => ?_
      refine s_ hf (r_assign hf rfl) fun a hf => ?_
      refine c_nil ?_
      obtain rfl := Option.some.inj hF
      exact Rnd.goes ⟨_, hw, hf.sub ⟨rfl, rfl, rfl, rfl, rfl, rfl, trivial⟩, o1, o5⟩
    rintro ⟨s47, s48⟩ a w hs ⟨ρ, hw, hf, o1, o5⟩
    subst hs
    have hF := hG46
    dsimp only at hF
    refine x_block <| n_then <| c_region ?_
    refine s_ hf (r_move hf rfl) fun a hf => ?_
    refine s_ hf (r_add hf rfl rfl) fun a hf => ?_
    refine s_ hf (r_assign hf rfl) fun a hf => ?_
    refine c_nil <| n_block <| n_then <| c_seq <| c_seq <| c_region ?_
    refine s_ hf (r_load_cell ty3 hf rfl o5.cl) fun a hf => ?_
    refine c_nt <| c_region ?_
    refine sx_ hf (r_alloc (cs := [vI 0]) 37 ze3 rfl hw) fun a v w hf hΦ => ?_
    obtain ⟨g37, ρ, rfl, hw, hE, o37⟩ := hΦ
    replace o1 := o1.ext hE
    replace o5 := o5.ext hE
    refine sk_ hf (r_store_w (cs' := [vI s22]) hw o37 (by decide) ty3 rfl rfl (one_one rfl) hf rfl rfl rfl) fun a w hf hΦ => ?_
    obtain ⟨hw, hA, o37⟩ := hΦ
    replace o1 := o1.adv hA (by decide) (fun _ => by unfold lab; omega)
    replace o5 := o5.adv hA (by decide)
    refine c_nt <| c_region ?_
    refine s_ hf (r_load_cell ty3 hf rfl o37.cl) fun a hf => ?_
    refine s_ hf (r_add hf rfl rfl) fun a hf => ?_
    refine sk_ hf (r_store_w (cs' := [vI (w64 (s22 + 1))]) hw o37 (by decide) ty3 rfl rfl (one_one rfl) hf rfl rfl rfl) fun a w hf hΦ => ?_
    obtain ⟨hw, hA, o37⟩ := hΦ
    replace o1 := o1.adv hA (by decide) (fun _ => by unfold lab; omega)
    replace o5 := o5.adv hA (by decide)
    refine c_nil ?_
    obtain rfl := Option.some.inj hF
    replace o1 := o1.tr (Tr.relab (j := 37) (b := 5) (by decide)) (fun _ => Tr.relab (by unfold lab; omega))
    replace o37 := o37.relab 5
    replace hw := hw.relab (j := 37) (by decide) 5
    exact Rnd.goes ⟨_, _, hw, hf.sub ⟨rfl, rfl, rfl, rfl, trivial⟩, o1, o37⟩
  rintro ⟨s18, s19, s20, s22⟩ a w hs ⟨ρ, hw, hf⟩
  subst hs
  have hF := hG17
  dsimp only at hF
  refine x_block <| n_then <| c_seq <| c_region ?_
  refine s_ hf (r_move hf rfl) fun a hf => ?_
  refine s_ hf (r_assign hf rfl) fun a hf => ?_
  refine c_nt <| c_retc ?_
  obtain rfl := Option.some.inj hF
  refine c_ret hf (res_tmp Try.results136 hf rfl) ?_
  exact ⟨_, rfl, hw.below, rfl⟩
end Go.Proofs.YtB
