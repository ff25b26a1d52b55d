/- Functions of the program as plain functions, and that they compute these. Printed by gen.py. -/
import Derived.Test.YtaaghemmkbgldaaWfG2
set_option linter.unusedVariables false
set_option linter.unusedSimpArgs false
set_option maxRecDepth 4000
set_option maxHeartbeats 1000000
namespace Go.Proofs.YtB
open Go Go.RowKit Go.Proofs Go.Proofs.YtaaghemmkbgldaaW.PrintWords
/-! f26 -/
noncomputable def impl_SplitProduct (a0 : Sch) (a1 : Int) (a2 : Int) (a3 : Form) : Option (Sch × Int) :=
  (impl_IsScheme a0).bind fun x1 => if (!x1) = true then (some (((⟨0, 0, 0, 0, ([] : List Prod)⟩ : Sch), 1))) else (((impl_isIndex a0 ([a1])).bind fun x6 => if (!x6) = true then (some true) else (if (decide (a2 < 0)) = true then (some true) else (if (decide (2 < a2)) = true then (some true) else ((impl_placesOf a0).bind fun x11 => if 0 ≤ a2 ∧ a2 < 3 then ((impl_isForm a0.p (vg 0 x11 a2) a3).bind fun x14 => some (!x14)) else none)))).bind fun (s5 : Bool) => if s5 = true then (some (((⟨0, 0, 0, 0, ([] : List Prod)⟩ : Sch), 2))) else (if 0 ≤ a1 ∧ a1 < (a0.ps.length : Int) then ((impl_factors (gl zProd a0.ps a1)).bind fun x19 => (if (decide (a3 = zForm)) = true then (some true) else (if 0 ≤ a2 ∧ a2 < 3 then (some (decide (a3 = (vg zForm x19 a2)))) else none)).bind fun (s22 : Bool) => if s22 = true then (some (((⟨0, 0, 0, 0, ([] : List Prod)⟩ : Sch), 5))) else (if (decide ((a0.ps.length : Int) = 30)) = true then (some (((⟨0, 0, 0, 0, ([] : List Prod)⟩ : Sch), 3))) else (if 0 ≤ a2 ∧ a2 < 3 then ((impl_sum a0.p (vg zForm x19 a2) a3 (w64 (a0.p - 1))).bind fun x28 => (slices_Clone_76 a0.ps).bind fun x30 => (impl_productOf (vs x19 a2 a3)).bind fun x34 => if 0 ≤ a1 ∧ a1 < (x30.length : Int) then ((impl_productOf (vs x19 a2 x28)).bind fun x38 => if ((x30.set a1.toNat x34).length + ([x38]).length) * 27 ≤ 140737488355328 then ((impl_with a0 ((x30.set a1.toNat x34) ++ [x38])).bind fun x42 => some ((x42, 0))) else none) else none) else none))) else none))
theorem impl_SplitProduct_ok {w0 : World} {a0 : Sch} {a1 : Int} {a2 : Int} {a3 : Form} {va0 : Value} (h0 : Ro (kf cProd) w0 va0 a0.ps) {r : Sch × Int} (hF : impl_SplitProduct a0 a1 a2 a3 = some r) :
    Calls Try.prog 26 [.agg ([vI a0.p, vI a0.n, vI a0.m, vI a0.k, va0]).toArray, vI a1, vI a2, .agg (cForm.enc a3).toArray].toArray w0 fun e w => ∃ v, e = .returned v ∧ Below w0.heap.size w0 w ∧ ∃ u0, .tuple #[.agg [.int .i64 r.1.p, .int .i64 r.1.n, .int .i64 r.1.m, .int .i64 r.1.k, u0].toArray, .int .i64 r.2] = v ∧ Fresh (kf cProd) 78 w0 w u0 r.1.ps := by
  refine calls_of (k := 99) Try.func26 rfl rfl (Nat.le_of_ble_eq_true rfl) fun a hf => ?_
  replace hf : Fr 99 a [(0, .agg ([vI a0.p, vI a0.n, vI a0.m, vI a0.k, va0]).toArray), (1, vI a1), (2, vI a2), (3, .agg (cForm.enc a3).toArray)] := hf
  refine c_start fun w ρ hw => ?_
  unfold impl_SplitProduct at hF
  refine c_seq <| c_region ?_
  refine sx_ hf (r_box (cs := [vI a0.p, vI a0.n, vI a0.m, vI a0.k, va0]) 1 hw hf rfl rfl) fun a v w hf hΦ => ?_
  obtain ⟨g1, ρ, rfl, hw, hE, o1⟩ := hΦ
  refine sx_ hf (r_box (cs := cForm.enc a3) 2 hw hf rfl rfl) fun a v w hf hΦ => ?_
  obtain ⟨g2, ρ, rfl, hw, hE, o2⟩ := hΦ
  replace o1 := o1.ext hE
  have o4 : Ow (kf cProd) 78 ρ w w0.heap.size 4 (.slice none 0 0) [] := Ow.nil _ _ _ _ _ _
  refine sx_ hf (r_alloc (cs := [vI 0, vI 0, vI 0, vI 0, (.slice none 0 0)]) 3 ze28 rfl hw) fun a v w hf hΦ => ?_
  obtain ⟨g3, ρ, rfl, hw, hE, o3⟩ := hΦ
  replace o1 := o1.ext hE
  replace o2 := o2.ext hE
  replace o4 := o4.ext hE
  refine s_ hf (r_assign hf rfl) fun a hf => ?_
  refine c_nt <| c_seq <| c_block <| c_seq <| c_region ?_
  refine s_ hf (r_load_agg ty28 hf rfl o1.cl rfl) fun a hf => ?_
  obtain ⟨x1, hx2, hF⟩ := of_bind hF
  refine st_fn 5 hw hf rfl rfl (by decide) (r_fn en74 hf rfl) (impl_IsScheme_ok (a0 := a0) (h0.now hw) hx2) fun a v w ρ hf hw hE hN hΦ => ?_
  obtain rfl := hΦ
  replace o1 := o1.ext hE
  replace o2 := o2.ext hE
  replace o4 := o4.ext hE
  replace o3 := o3.ext hE
  refine s_ hf (r_not hf rfl) fun a hf => ?_
  refine s_ hf (r_assign hf rfl) fun a hf => ?_
  refine c_nt ?_
  rcases of_ite hF with ⟨hb3, hF⟩ | ⟨hb3, hF⟩
  · refine c_ift hf rfl hb3 <| c_seq <| c_region ?_
    have o6 : Ow (kf cProd) 78 ρ w w0.heap.size 6 (.slice none 0 0) [] := Ow.nil _ _ _ _ _ _
    refine s_ hf (r_build_struct (pl := [(0, 1), (1, 1), (2, 1), (3, 1), (4, 1)]) (vs := []) (res := ([vI 0, vI 0, vI 0, vI 0, (.slice none 0 0)]).toArray) Try.underlying28 (by kernel_rfl) ze28 hf rfl rfl rfl) fun a hf => ?_
    refine sk_ hf (r_store_w (cs' := [vI 0, vI 0, vI 0, vI 0, (.slice none 0 0)]) hw o3 (by decide) ty28 rfl rfl (one_sch o6.ro.one) hf rfl rfl rfl) fun a w hf hΦ => ?_
    obtain ⟨hw, hA, o3⟩ := hΦ
    replace o1 := o1.adv hA (by decide)
    replace o2 := o2.adv hA (by decide)
    replace o4 := o4.adv hA (by decide)
    replace o6 := o6.adv hA (by decide)
    refine s_ hf (r_assign hf rfl) fun a hf => ?_
    refine c_nt <| c_retc ?_
    obtain rfl := Option.some.inj hF
    refine r_block <| r_then <| c_ret hf (res_ct Try.results26 ty28 hf rfl o3.cl rfl rfl) ?_
    exact ⟨_, rfl, hw.below, ⟨_, rfl, o6.out⟩⟩
  refine c_iff hf rfl hb3 <| c_seq ?_
  obtain ⟨s5, hT4, hG4⟩ := of_bind hF
  clear hF
  refine c_meet (fun (s5 : Bool) a w => ∃ ρ, Wd w0 ρ w ∧ Fr 99 a [(1, vI a1), (2, vI a2), (4, .pointer (some ((⟨g1, 0, none⟩ : Addr).add 0))), (7, .pointer (some ((⟨g2, 0, none⟩ : Addr).add 0))), (8, .pointer (some ((⟨g3, 0, none⟩ : Addr).add 0))), (18, .bool s5)] ∧ Va ρ w 1 g1 28 ([vI a0.p, vI a0.n, vI a0.m, vI a0.k, va0]) ∧ Va ρ w 2 g2 39 (cForm.enc a3) ∧ Va ρ w 3 g3 28 ([vI 0, vI 0, vI 0, vI 0, (.slice none 0 0)]) ∧ O78 ρ w w0 4 (.slice none 0 0) ([] : List Prod)) s5 ?_ ?_
  · have hF := hT4
    obtain ⟨x6, hx7, hF⟩ := of_bind hF
    rcases of_ite hF with ⟨hb8, hF⟩ | ⟨hb8, hF⟩
    · replace hf : Fr 99 a [(1, vI a1), (2, vI a2), (4, .pointer (some ((⟨g1, 0, none⟩ : Addr).add 0))), (7, .pointer (some ((⟨g2, 0, none⟩ : Addr).add 0))), (8, .pointer (some ((⟨g3, 0, none⟩ : Addr).add 0)))] := hf.sub ⟨rfl, rfl, rfl, rfl, rfl, trivial⟩
      refine c_drawL (h := 21) mixed (by kernel_rfl) (by kernel_rfl) (fun ρ w => Va ρ w 1 g1 28 ([vI a0.p, vI a0.n, vI a0.m, vI a0.k, va0]) ∧ Va ρ w 2 g2 39 (cForm.enc a3) ∧ Va ρ w 3 g3 28 ([vI 0, vI 0, vI 0, vI 0, (.slice none 0 0)]) ∧ O78 ρ w w0 4 (.slice none 0 0) ([] : List Prod)) ?_ [fun ρ w v => .agg ([vI a0.p, vI a0.n, vI a0.m, vI a0.k, va0]).toArray = v, fun ρ w v => vI a1 = v, fun ρ w v => ∃ v7, v7 = v ∧ O2 ρ w w0 7 v7 ([a1]), fun ρ w v => .bool x6 = v, fun ρ w v => .bool (!x6) = v, fun ρ w v => .bool (!x6) = v, fun ρ w v => undef = v, fun ρ w v => undef = v, fun ρ w v => .bool true = v, fun ρ w v => .bool true = v, fun ρ w v => undef = v, fun ρ w v => undef = v, fun ρ w v => .bool true = v, fun ρ w v => .bool true = v, fun ρ w v => undef = v, fun ρ w v => undef = v, fun ρ w v => undef = v, fun ρ w v => undef = v, fun ρ w v => undef = v, fun ρ w v => undef = v, fun ρ w v => undef = v] ?_ hw ⟨o1, o2, o3, o4⟩ hf ?_ ?_
      · intro ρ w ρ' w' hE hG
        obtain ⟨o1, o2, o3, o4⟩ := hG
        exact ⟨o1.ext hE, o2.ext hE, o3.ext hE, o4.ext hE⟩
      · exact LastsL.cons (fun _ _ _ _ _ _ h => h) <| LastsL.cons (fun _ _ _ _ _ _ h => h) <| LastsL.cons (fun _ _ _ _ _ hE h => by obtain ⟨v7, h, o7⟩ := h; exact ⟨_, h, o7.ext hE⟩) <| LastsL.cons (fun _ _ _ _ _ _ h => h) <| LastsL.cons (fun _ _ _ _ _ _ h => h) <| LastsL.cons (fun _ _ _ _ _ _ h => h) <| LastsL.cons (fun _ _ _ _ _ _ h => h) <| LastsL.cons (fun _ _ _ _ _ _ h => h) <| LastsL.cons (fun _ _ _ _ _ _ h => h) <| LastsL.cons (fun _ _ _ _ _ _ h => h) <| LastsL.cons (fun _ _ _ _ _ _ h => h) <| LastsL.cons (fun _ _ _ _ _ _ h => h) <| LastsL.cons (fun _ _ _ _ _ _ h => h) <| LastsL.cons (fun _ _ _ _ _ _ h => h) <| LastsL.cons (fun _ _ _ _ _ _ h => h) <| LastsL.cons (fun _ _ _ _ _ _ h => h) <| LastsL.cons (fun _ _ _ _ _ _ h => h) <| LastsL.cons (fun _ _ _ _ _ _ h => h) <| LastsL.cons (fun _ _ _ _ _ _ h => h) <| LastsL.cons (fun _ _ _ _ _ _ h => h) <| LastsL.cons (fun _ _ _ _ _ _ h => h) <| LastsL.nil
      · refine StepsB.cons ?_ <| StepsB.cons ?_ <| StepsB.cons ?_ <| StepsB.cons ?_ <| StepsB.cons ?_ <| StepsB.cons ?_ <| StepsB.cons ?_ <| StepsB.cons ?_ <| StepsB.cons ?_ <| StepsB.cons ?_ <| StepsB.cons ?_ <| StepsB.cons ?_ <| StepsB.cons ?_ <| StepsB.cons ?_ <| StepsB.cons ?_ <| StepsB.cons ?_ <| StepsB.cons ?_ <| StepsB.cons ?_ <| StepsB.cons ?_ <| StepsB.cons ?_ <| StepsB.cons ?_ <| StepsB.nil
        · intro ρ w a hw hG hf hd K hK
          obtain ⟨o1, o2, o3, o4⟩ := hG
          exact dv_ hK hw (wn rfl) (r_load_agg ty28 hf rfl o1.cl rfl) rfl
        · intro ρ w a hw hG hf hd K hK
          obtain ⟨o1, o2, o3, o4⟩ := hG
          exact dv_ hK hw (wn rfl) (r_move hf rfl) rfl
        · intro ρ w a hw hG hf hd K hK
          obtain ⟨o1, o2, o3, o4⟩ := hG
          obtain ⟨_, hf, rfl⟩ := got (hd 1 (by kernel_rfl)) hf
          refine dx_ hK hw (wn rfl) (r_lit (d := fI64) (xs := ([a1] : List Int)) (vs := [vI a1]) 7 Try.underlying61 el2 (Nat.le_of_ble_eq_true rfl) (Nat.le_of_ble_eq_true rfl) hw hf rfl rfl rfl) fun v7 w' hΦ => ?_
          obtain ⟨ρ, hw, hE, o7⟩ := hΦ
          exact ⟨_, hw, hE, ex_ <| an_ rfl <| o7⟩
        · intro ρ w a hw hG hf hd K hK
          obtain ⟨o1, o2, o3, o4⟩ := hG
          obtain ⟨_, hf, rfl⟩ := got (hd 0 (by kernel_rfl)) hf
          obtain ⟨_, hf, ⟨v7, rfl, o7⟩⟩ := got (hd 2 (by kernel_rfl)) hf
          refine dc_ hK hw (wn rfl) (r_fn en75 hf rfl) (impl_isIndex_ok (a0 := a0) (h0.now hw) o7.ro hx7) fun v w' hΦ => ?_
          obtain ⟨hb, hΦ⟩ := hΦ
          obtain rfl := hΦ
          have hE := Ext.new (ρ := ρ) 8 hb
          exact ⟨_, hw.new 8 hb, hE, rfl⟩
        · intro ρ w a hw hG hf hd K hK
          obtain ⟨o1, o2, o3, o4⟩ := hG
          obtain ⟨_, hf, rfl⟩ := got (hd 3 (by kernel_rfl)) hf
          exact dv_ hK hw (wn rfl) (r_not hf rfl) rfl
        · intro ρ w a hw hG hf hd K hK
          obtain ⟨o1, o2, o3, o4⟩ := hG
          obtain ⟨_, hf, rfl⟩ := got (hd 4 (by kernel_rfl)) hf
          exact dv_ hK hw (wn rfl) (r_move hf rfl) rfl
        · intro ρ w a hw hG hf hd K hK
          obtain ⟨o1, o2, o3, o4⟩ := hG
          obtain ⟨_, hf, rfl⟩ := got (hd 5 (by kernel_rfl)) hf
          exact do_ hK (b := true) hw hf rfl rfl rfl hb8 rfl rfl
        · intro ρ w a hw hG hf hd K hK
          obtain ⟨o1, o2, o3, o4⟩ := hG
          obtain ⟨_, hf, rfl⟩ := got (hd 5 (by kernel_rfl)) hf
          obtain ⟨_, hf, rfl⟩ := got (hd 6 (by kernel_rfl)) hf
          exact do_ hK (b := true) hw hf rfl rfl rfl hb8 rfl rfl
        · intro ρ w a hw hG hf hd K hK
          obtain ⟨o1, o2, o3, o4⟩ := hG
          obtain ⟨_, hf, rfl⟩ := got (hd 5 (by kernel_rfl)) hf
          obtain ⟨_, hf, rfl⟩ := got (hd 7 (by kernel_rfl)) hf
          exact dv_ hK hw (wn rfl) (r_pick (b := true) hf rfl hb8 rfl) rfl
        · intro ρ w a hw hG hf hd K hK
          obtain ⟨o1, o2, o3, o4⟩ := hG
          obtain ⟨_, hf, rfl⟩ := got (hd 8 (by kernel_rfl)) hf
          exact dv_ hK hw (wn rfl) (r_move hf rfl) rfl
        · intro ρ w a hw hG hf hd K hK
          obtain ⟨o1, o2, o3, o4⟩ := hG
          obtain ⟨_, hf, rfl⟩ := got (hd 9 (by kernel_rfl)) hf
          exact do_ hK (b := true) hw hf rfl rfl rfl rfl rfl rfl
        · intro ρ w a hw hG hf hd K hK
          obtain ⟨o1, o2, o3, o4⟩ := hG
          obtain ⟨_, hf, rfl⟩ := got (hd 9 (by kernel_rfl)) hf
          obtain ⟨_, hf, rfl⟩ := got (hd 10 (by kernel_rfl)) hf
          exact do_ hK (b := true) hw hf rfl rfl rfl rfl rfl rfl
        · intro ρ w a hw hG hf hd K hK
          obtain ⟨o1, o2, o3, o4⟩ := hG
          obtain ⟨_, hf, rfl⟩ := got (hd 9 (by kernel_rfl)) hf
          obtain ⟨_, hf, rfl⟩ := got (hd 11 (by kernel_rfl)) hf
          exact dv_ hK hw (wn rfl) (r_pick (b := true) hf rfl rfl rfl) rfl
        · intro ρ w a hw hG hf hd K hK
          obtain ⟨o1, o2, o3, o4⟩ := hG
          obtain ⟨_, hf, rfl⟩ := got (hd 12 (by kernel_rfl)) hf
          exact dv_ hK hw (wn rfl) (r_move hf rfl) rfl
        · intro ρ w a hw hG hf hd K hK
          obtain ⟨o1, o2, o3, o4⟩ := hG
          obtain ⟨_, hf, rfl⟩ := got (hd 13 (by kernel_rfl)) hf
          exact do_ hK (b := true) hw hf rfl rfl rfl rfl rfl rfl
        · intro ρ w a hw hG hf hd K hK
          obtain ⟨o1, o2, o3, o4⟩ := hG
          obtain ⟨_, hf, rfl⟩ := got (hd 13 (by kernel_rfl)) hf
          obtain ⟨_, hf, rfl⟩ := got (hd 14 (by kernel_rfl)) hf
          exact do_ hK (b := true) hw hf rfl rfl rfl rfl rfl rfl
        · intro ρ w a hw hG hf hd K hK
          obtain ⟨o1, o2, o3, o4⟩ := hG
          obtain ⟨_, hf, rfl⟩ := got (hd 13 (by kernel_rfl)) hf
          exact do_ hK (b := true) hw hf rfl rfl rfl rfl rfl rfl
        · intro ρ w a hw hG hf hd K hK
          obtain ⟨o1, o2, o3, o4⟩ := hG
          obtain ⟨_, hf, rfl⟩ := got (hd 13 (by kernel_rfl)) hf
          obtain ⟨_, hf, rfl⟩ := got (hd 16 (by kernel_rfl)) hf
          exact do_ hK (b := true) hw hf rfl rfl rfl rfl rfl rfl
        · intro ρ w a hw hG hf hd K hK
          obtain ⟨o1, o2, o3, o4⟩ := hG
          obtain ⟨_, hf, rfl⟩ := got (hd 13 (by kernel_rfl)) hf
          exact do_ hK (b := true) hw hf rfl rfl rfl rfl rfl rfl
        · intro ρ w a hw hG hf hd K hK
          obtain ⟨o1, o2, o3, o4⟩ := hG
          obtain ⟨_, hf, rfl⟩ := got (hd 13 (by kernel_rfl)) hf
          obtain ⟨_, hf, rfl⟩ := got (hd 17 (by kernel_rfl)) hf
          obtain ⟨_, hf, rfl⟩ := got (hd 18 (by kernel_rfl)) hf
          exact do_ hK (b := true) hw hf rfl rfl rfl rfl rfl rfl
        · intro ρ w a hw hG hf hd K hK
          obtain ⟨o1, o2, o3, o4⟩ := hG
          obtain ⟨_, hf, rfl⟩ := got (hd 13 (by kernel_rfl)) hf
          exact do_ hK (b := true) hw hf rfl rfl rfl rfl rfl rfl
      intro ρ w a hw hG hf hd
      obtain ⟨o1, o2, o3, o4⟩ := hG
      obtain ⟨_, hf, rfl⟩ := got (hd 13 (by decide)) hf
      obtain ⟨_, hf, rfl⟩ := got (hd 15 (by decide)) hf
      obtain ⟨_, hf, rfl⟩ := got (hd 19 (by decide)) hf
      obtain ⟨_, hf, rfl⟩ := got (hd 20 (by decide)) hf
      refine st_no (b := true) hf rfl rfl rfl rfl rfl (by decide) fun a hf => ?_
      refine st_no (b := true) hf rfl rfl rfl rfl rfl (by decide) fun a hf => ?_
      refine s_ hf (r_pick (b := true) hf rfl rfl rfl) fun a hf => ?_
      refine s_ hf (r_assign hf rfl) fun a hf => ?_
      refine c_nil ⟨rfl, ?_⟩
      obtain rfl := Option.some.inj hF
      exact ⟨_, hw, hf.sub ⟨rfl, rfl, rfl, rfl, rfl, rfl, trivial⟩, o1, o2, o3, o4⟩
    rcases of_ite hF with ⟨hb9, hF⟩ | ⟨hb9, hF⟩
    · replace hf : Fr 99 a [(1, vI a1), (2, vI a2), (4, .pointer (some ((⟨g1, 0, none⟩ : Addr).add 0))), (7, .pointer (some ((⟨g2, 0, none⟩ : Addr).add 0))), (8, .pointer (some ((⟨g3, 0, none⟩ : Addr).add 0)))] := hf.sub ⟨rfl, rfl, rfl, rfl, rfl, trivial⟩
      refine c_drawL (h := 21) mixed (by kernel_rfl) (by kernel_rfl) (fun ρ w => Va ρ w 1 g1 28 ([vI a0.p, vI a0.n, vI a0.m, vI a0.k, va0]) ∧ Va ρ w 2 g2 39 (cForm.enc a3) ∧ Va ρ w 3 g3 28 ([vI 0, vI 0, vI 0, vI 0, (.slice none 0 0)]) ∧ O78 ρ w w0 4 (.slice none 0 0) ([] : List Prod)) ?_ [fun ρ w v => .agg ([vI a0.p, vI a0.n, vI a0.m, vI a0.k, va0]).toArray = v, fun ρ w v => vI a1 = v, fun ρ w v => ∃ v7, v7 = v ∧ O2 ρ w w0 7 v7 ([a1]), fun ρ w v => .bool x6 = v, fun ρ w v => .bool (!x6) = v, fun ρ w v => .bool (!x6) = v, fun ρ w v => vI a2 = v, fun ρ w v => .bool (decide (a2 < 0)) = v, fun ρ w v => .bool (decide (a2 < 0)) = v, fun ρ w v => .bool (decide (a2 < 0)) = v, fun ρ w v => undef = v, fun ρ w v => undef = v, fun ρ w v => .bool true = v, fun ρ w v => .bool true = v, fun ρ w v => undef = v, fun ρ w v => undef = v, fun ρ w v => undef = v, fun ρ w v => undef = v, fun ρ w v => undef = v, fun ρ w v => undef = v, fun ρ w v => undef = v] ?_ hw ⟨o1, o2, o3, o4⟩ hf ?_ ?_
      · intro ρ w ρ' w' hE hG
        obtain ⟨o1, o2, o3, o4⟩ := hG
        exact ⟨o1.ext hE, o2.ext hE, o3.ext hE, o4.ext hE⟩
      · exact LastsL.cons (fun _ _ _ _ _ _ h => h) <| LastsL.cons (fun _ _ _ _ _ _ h => h) <| LastsL.cons (fun _ _ _ _ _ hE h => by obtain ⟨v7, h, o7⟩ := h; exact ⟨_, h, o7.ext hE⟩) <| LastsL.cons (fun _ _ _ _ _ _ h => h) <| LastsL.cons (fun _ _ _ _ _ _ h => h) <| LastsL.cons (fun _ _ _ _ _ _ h => h) <| LastsL.cons (fun _ _ _ _ _ _ h => h) <| LastsL.cons (fun _ _ _ _ _ _ h => h) <| LastsL.cons (fun _ _ _ _ _ _ h => h) <| LastsL.cons (fun _ _ _ _ _ _ h => h) <| LastsL.cons (fun _ _ _ _ _ _ h => h) <| LastsL.cons (fun _ _ _ _ _ _ h => h) <| LastsL.cons (fun _ _ _ _ _ _ h => h) <| LastsL.cons (fun _ _ _ _ _ _ h => h) <| LastsL.cons (fun _ _ _ _ _ _ h => h) <| LastsL.cons (fun _ _ _ _ _ _ h => h) <| LastsL.cons (fun _ _ _ _ _ _ h => h) <| LastsL.cons (fun _ _ _ _ _ _ h => h) <| LastsL.cons (fun _ _ _ _ _ _ h => h) <| LastsL.cons (fun _ _ _ _ _ _ h => h) <| LastsL.cons (fun _ _ _ _ _ _ h => h) <| LastsL.nil
      · refine StepsB.cons ?_ <| StepsB.cons ?_ <| StepsB.cons ?_ <| StepsB.cons ?_ <| StepsB.cons ?_ <| StepsB.cons ?_ <| StepsB.cons ?_ <| StepsB.cons ?_ <| StepsB.cons ?_ <| StepsB.cons ?_ <| StepsB.cons ?_ <| StepsB.cons ?_ <| StepsB.cons ?_ <| StepsB.cons ?_ <| StepsB.cons ?_ <| StepsB.cons ?_ <| StepsB.cons ?_ <| StepsB.cons ?_ <| StepsB.cons ?_ <| StepsB.cons ?_ <| StepsB.cons ?_ <| StepsB.nil
        · intro ρ w a hw hG hf hd K hK
          obtain ⟨o1, o2, o3, o4⟩ := hG
          exact dv_ hK hw (wn rfl) (r_load_agg ty28 hf rfl o1.cl rfl) rfl
        · intro ρ w a hw hG hf hd K hK
          obtain ⟨o1, o2, o3, o4⟩ := hG
          exact dv_ hK hw (wn rfl) (r_move hf rfl) rfl
        · intro ρ w a hw hG hf hd K hK
          obtain ⟨o1, o2, o3, o4⟩ := hG
          obtain ⟨_, hf, rfl⟩ := got (hd 1 (by kernel_rfl)) hf
          refine dx_ hK hw (wn rfl) (r_lit (d := fI64) (xs := ([a1] : List Int)) (vs := [vI a1]) 7 Try.underlying61 el2 (Nat.le_of_ble_eq_true rfl) (Nat.le_of_ble_eq_true rfl) hw hf rfl rfl rfl) fun v7 w' hΦ => ?_
          obtain ⟨ρ, hw, hE, o7⟩ := hΦ
          exact ⟨_, hw, hE, ex_ <| an_ rfl <| o7⟩
        · intro ρ w a hw hG hf hd K hK
          obtain ⟨o1, o2, o3, o4⟩ := hG
          obtain ⟨_, hf, rfl⟩ := got (hd 0 (by kernel_rfl)) hf
          obtain ⟨_, hf, ⟨v7, rfl, o7⟩⟩ := got (hd 2 (by kernel_rfl)) hf
          refine dc_ hK hw (wn rfl) (r_fn en75 hf rfl) (impl_isIndex_ok (a0 := a0) (h0.now hw) o7.ro hx7) fun v w' hΦ => ?_
          obtain ⟨hb, hΦ⟩ := hΦ
          obtain rfl := hΦ
          have hE := Ext.new (ρ := ρ) 8 hb
          exact ⟨_, hw.new 8 hb, hE, rfl⟩
        · intro ρ w a hw hG hf hd K hK
          obtain ⟨o1, o2, o3, o4⟩ := hG
          obtain ⟨_, hf, rfl⟩ := got (hd 3 (by kernel_rfl)) hf
          exact dv_ hK hw (wn rfl) (r_not hf rfl) rfl
        · intro ρ w a hw hG hf hd K hK
          obtain ⟨o1, o2, o3, o4⟩ := hG
          obtain ⟨_, hf, rfl⟩ := got (hd 4 (by kernel_rfl)) hf
          exact dv_ hK hw (wn rfl) (r_move hf rfl) rfl
        · intro ρ w a hw hG hf hd K hK
          obtain ⟨o1, o2, o3, o4⟩ := hG
          obtain ⟨_, hf, rfl⟩ := got (hd 5 (by kernel_rfl)) hf
          exact dv_ hK hw (wg (b := false) hf rfl rfl rfl hb8) (r_move hf rfl) rfl
        · intro ρ w a hw hG hf hd K hK
          obtain ⟨o1, o2, o3, o4⟩ := hG
          obtain ⟨_, hf, rfl⟩ := got (hd 5 (by kernel_rfl)) hf
          obtain ⟨_, hf, rfl⟩ := got (hd 6 (by kernel_rfl)) hf
          exact dv_ hK hw (wg (b := false) hf rfl rfl rfl hb8) (r_lss hf rfl rfl) rfl
        · intro ρ w a hw hG hf hd K hK
          obtain ⟨o1, o2, o3, o4⟩ := hG
          obtain ⟨_, hf, rfl⟩ := got (hd 5 (by kernel_rfl)) hf
          obtain ⟨_, hf, rfl⟩ := got (hd 7 (by kernel_rfl)) hf
          exact dv_ hK hw (wn rfl) (r_pick (b := false) hf rfl hb8 rfl) rfl
        · intro ρ w a hw hG hf hd K hK
          obtain ⟨o1, o2, o3, o4⟩ := hG
          obtain ⟨_, hf, rfl⟩ := got (hd 8 (by kernel_rfl)) hf
          exact dv_ hK hw (wn rfl) (r_move hf rfl) rfl
        · intro ρ w a hw hG hf hd K hK
          obtain ⟨o1, o2, o3, o4⟩ := hG
          obtain ⟨_, hf, rfl⟩ := got (hd 9 (by kernel_rfl)) hf
          exact do_ hK (b := true) hw hf rfl rfl rfl hb9 rfl rfl
        · intro ρ w a hw hG hf hd K hK
          obtain ⟨o1, o2, o3, o4⟩ := hG
          obtain ⟨_, hf, rfl⟩ := got (hd 9 (by kernel_rfl)) hf
          obtain ⟨_, hf, rfl⟩ := got (hd 10 (by kernel_rfl)) hf
          exact do_ hK (b := true) hw hf rfl rfl rfl hb9 rfl rfl
        · intro ρ w a hw hG hf hd K hK
          obtain ⟨o1, o2, o3, o4⟩ := hG
          obtain ⟨_, hf, rfl⟩ := got (hd 9 (by kernel_rfl)) hf
          obtain ⟨_, hf, rfl⟩ := got (hd 11 (by kernel_rfl)) hf
          exact dv_ hK hw (wn rfl) (r_pick (b := true) hf rfl hb9 rfl) rfl
        · intro ρ w a hw hG hf hd K hK
          obtain ⟨o1, o2, o3, o4⟩ := hG
          obtain ⟨_, hf, rfl⟩ := got (hd 12 (by kernel_rfl)) hf
          exact dv_ hK hw (wn rfl) (r_move hf rfl) rfl
        · intro ρ w a hw hG hf hd K hK
          obtain ⟨o1, o2, o3, o4⟩ := hG
          obtain ⟨_, hf, rfl⟩ := got (hd 13 (by kernel_rfl)) hf
          exact do_ hK (b := true) hw hf rfl rfl rfl rfl rfl rfl
        · intro ρ w a hw hG hf hd K hK
          obtain ⟨o1, o2, o3, o4⟩ := hG
          obtain ⟨_, hf, rfl⟩ := got (hd 13 (by kernel_rfl)) hf
          obtain ⟨_, hf, rfl⟩ := got (hd 14 (by kernel_rfl)) hf
          exact do_ hK (b := true) hw hf rfl rfl rfl rfl rfl rfl
        · intro ρ w a hw hG hf hd K hK
          obtain ⟨o1, o2, o3, o4⟩ := hG
          obtain ⟨_, hf, rfl⟩ := got (hd 13 (by kernel_rfl)) hf
          exact do_ hK (b := true) hw hf rfl rfl rfl rfl rfl rfl
        · intro ρ w a hw hG hf hd K hK
          obtain ⟨o1, o2, o3, o4⟩ := hG
          obtain ⟨_, hf, rfl⟩ := got (hd 13 (by kernel_rfl)) hf
          obtain ⟨_, hf, rfl⟩ := got (hd 16 (by kernel_rfl)) hf
          exact do_ hK (b := true) hw hf rfl rfl rfl rfl rfl rfl
        · intro ρ w a hw hG hf hd K hK
          obtain ⟨o1, o2, o3, o4⟩ := hG
          obtain ⟨_, hf, rfl⟩ := got (hd 13 (by kernel_rfl)) hf
          exact do_ hK (b := true) hw hf rfl rfl rfl rfl rfl rfl
        · intro ρ w a hw hG hf hd K hK
          obtain ⟨o1, o2, o3, o4⟩ := hG
          obtain ⟨_, hf, rfl⟩ := got (hd 13 (by kernel_rfl)) hf
          obtain ⟨_, hf, rfl⟩ := got (hd 17 (by kernel_rfl)) hf
          obtain ⟨_, hf, rfl⟩ := got (hd 18 (by kernel_rfl)) hf
          exact do_ hK (b := true) hw hf rfl rfl rfl rfl rfl rfl
        · intro ρ w a hw hG hf hd K hK
          obtain ⟨o1, o2, o3, o4⟩ := hG
          obtain ⟨_, hf, rfl⟩ := got (hd 13 (by kernel_rfl)) hf
          exact do_ hK (b := true) hw hf rfl rfl rfl rfl rfl rfl
      intro ρ w a hw hG hf hd
      obtain ⟨o1, o2, o3, o4⟩ := hG
      obtain ⟨_, hf, rfl⟩ := got (hd 13 (by decide)) hf
      obtain ⟨_, hf, rfl⟩ := got (hd 15 (by decide)) hf
      obtain ⟨_, hf, rfl⟩ := got (hd 19 (by decide)) hf
      obtain ⟨_, hf, rfl⟩ := got (hd 20 (by decide)) hf
      refine st_no (b := true) hf rfl rfl rfl rfl rfl (by decide) fun a hf => ?_
      refine st_no (b := true) hf rfl rfl rfl rfl rfl (by decide) fun a hf => ?_
      refine s_ hf (r_pick (b := true) hf rfl rfl rfl) fun a hf => ?_
      refine s_ hf (r_assign hf rfl) fun a hf => ?_
      refine c_nil ⟨rfl, ?_⟩
      obtain rfl := Option.some.inj hF
      exact ⟨_, hw, hf.sub ⟨rfl, rfl, rfl, rfl, rfl, rfl, trivial⟩, o1, o2, o3, o4⟩
    rcases of_ite hF with ⟨hb10, hF⟩ | ⟨hb10, hF⟩
    · replace hf : Fr 99 a [(1, vI a1), (2, vI a2), (4, .pointer (some ((⟨g1, 0, none⟩ : Addr).add 0))), (7, .pointer (some ((⟨g2, 0, none⟩ : Addr).add 0))), (8, .pointer (some ((⟨g3, 0, none⟩ : Addr).add 0)))] := hf.sub ⟨rfl, rfl, rfl, rfl, rfl, trivial⟩
      refine c_drawL (h := 21) mixed (by kernel_rfl) (by kernel_rfl) (fun ρ w => Va ρ w 1 g1 28 ([vI a0.p, vI a0.n, vI a0.m, vI a0.k, va0]) ∧ Va ρ w 2 g2 39 (cForm.enc a3) ∧ Va ρ w 3 g3 28 ([vI 0, vI 0, vI 0, vI 0, (.slice none 0 0)]) ∧ O78 ρ w w0 4 (.slice none 0 0) ([] : List Prod)) ?_ [fun ρ w v => .agg ([vI a0.p, vI a0.n, vI a0.m, vI a0.k, va0]).toArray = v, fun ρ w v => vI a1 = v, fun ρ w v => ∃ v7, v7 = v ∧ O2 ρ w w0 7 v7 ([a1]), fun ρ w v => .bool x6 = v, fun ρ w v => .bool (!x6) = v, fun ρ w v => .bool (!x6) = v, fun ρ w v => vI a2 = v, fun ρ w v => .bool (decide (a2 < 0)) = v, fun ρ w v => .bool (decide (a2 < 0)) = v, fun ρ w v => .bool (decide (a2 < 0)) = v, fun ρ w v => vI a2 = v, fun ρ w v => .bool (decide (2 < a2)) = v, fun ρ w v => .bool (decide (2 < a2)) = v, fun ρ w v => .bool (decide (2 < a2)) = v, fun ρ w v => undef = v, fun ρ w v => undef = v, fun ρ w v => undef = v, fun ρ w v => undef = v, fun ρ w v => undef = v, fun ρ w v => undef = v, fun ρ w v => undef = v] ?_ hw ⟨o1, o2, o3, o4⟩ hf ?_ ?_
      · intro ρ w ρ' w' hE hG
        obtain ⟨o1, o2, o3, o4⟩ := hG
        exact ⟨o1.ext hE, o2.ext hE, o3.ext hE, o4.ext hE⟩
      · exact LastsL.cons (fun _ _ _ _ _ _ h => h) <| LastsL.cons (fun _ _ _ _ _ _ h => h) <| LastsL.cons (fun _ _ _ _ _ hE h => by obtain ⟨v7, h, o7⟩ := h; exact ⟨_, h, o7.ext hE⟩) <| LastsL.cons (fun _ _ _ _ _ _ h => h) <| LastsL.cons (fun _ _ _ _ _ _ h => h) <| LastsL.cons (fun _ _ _ _ _ _ h => h) <| LastsL.cons (fun _ _ _ _ _ _ h => h) <| LastsL.cons (fun _ _ _ _ _ _ h => h) <| LastsL.cons (fun _ _ _ _ _ _ h => h) <| LastsL.cons (fun _ _ _ _ _ _ h => h) <| LastsL.cons (fun _ _ _ _ _ _ h => h) <| LastsL.cons (fun _ _ _ _ _ _ h => h) <| LastsL.cons (fun _ _ _ _ _ _ h => h) <| LastsL.cons (fun _ _ _ _ _ _ h => h) <| LastsL.cons (fun _ _ _ _ _ _ h => h) <| LastsL.cons (fun _ _ _ _ _ _ h => h) <| LastsL.cons (fun _ _ _ _ _ _ h => h) <| LastsL.cons (fun _ _ _ _ _ _ h => h) <| LastsL.cons (fun _ _ _ _ _ _ h => h) <| LastsL.cons (fun _ _ _ _ _ _ h => h) <| LastsL.cons (fun _ _ _ _ _ _ h => h) <| LastsL.nil
      · refine StepsB.cons ?_ <| StepsB.cons ?_ <| StepsB.cons ?_ <| StepsB.cons ?_ <| StepsB.cons ?_ <| StepsB.cons ?_ <| StepsB.cons ?_ <| StepsB.cons ?_ <| StepsB.cons ?_ <| StepsB.cons ?_ <| StepsB.cons ?_ <| StepsB.cons ?_ <| StepsB.cons ?_ <| StepsB.cons ?_ <| StepsB.cons ?_ <| StepsB.cons ?_ <| StepsB.cons ?_ <| StepsB.cons ?_ <| StepsB.cons ?_ <| StepsB.cons ?_ <| StepsB.cons ?_ <| StepsB.nil
        · intro ρ w a hw hG hf hd K hK
          obtain ⟨o1, o2, o3, o4⟩ := hG
          exact dv_ hK hw (wn rfl) (r_load_agg ty28 hf rfl o1.cl rfl) rfl
        · intro ρ w a hw hG hf hd K hK
          obtain ⟨o1, o2, o3, o4⟩ := hG
          exact dv_ hK hw (wn rfl) (r_move hf rfl) rfl
        · intro ρ w a hw hG hf hd K hK
          obtain ⟨o1, o2, o3, o4⟩ := hG
          obtain ⟨_, hf, rfl⟩ := got (hd 1 (by kernel_rfl)) hf
          refine dx_ hK hw (wn rfl) (r_lit (d := fI64) (xs := ([a1] : List Int)) (vs := [vI a1]) 7 Try.underlying61 el2 (Nat.le_of_ble_eq_true rfl) (Nat.le_of_ble_eq_true rfl) hw hf rfl rfl rfl) fun v7 w' hΦ => ?_
          obtain ⟨ρ, hw, hE, o7⟩ := hΦ
          exact ⟨_, hw, hE, ex_ <| an_ rfl <| o7⟩
        · intro ρ w a hw hG hf hd K hK
          obtain ⟨o1, o2, o3, o4⟩ := hG
          obtain ⟨_, hf, rfl⟩ := got (hd 0 (by kernel_rfl)) hf
          obtain ⟨_, hf, ⟨v7, rfl, o7⟩⟩ := got (hd 2 (by kernel_rfl)) hf
          refine dc_ hK hw (wn rfl) (r_fn en75 hf rfl) (impl_isIndex_ok (a0 := a0) (h0.now hw) o7.ro hx7) fun v w' hΦ => ?_
          obtain ⟨hb, hΦ⟩ := hΦ
          obtain rfl := hΦ
          have hE := Ext.new (ρ := ρ) 8 hb
          exact ⟨_, hw.new 8 hb, hE, rfl⟩
        · intro ρ w a hw hG hf hd K hK
          obtain ⟨o1, o2, o3, o4⟩ := hG
          obtain ⟨_, hf, rfl⟩ := got (hd 3 (by kernel_rfl)) hf
          exact dv_ hK hw (wn rfl) (r_not hf rfl) rfl
        · intro ρ w a hw hG hf hd K hK
          obtain ⟨o1, o2, o3, o4⟩ := hG
          obtain ⟨_, hf, rfl⟩ := got (hd 4 (by kernel_rfl)) hf
          exact dv_ hK hw (wn rfl) (r_move hf rfl) rfl
        · intro ρ w a hw hG hf hd K hK
          obtain ⟨o1, o2, o3, o4⟩ := hG
          obtain ⟨_, hf, rfl⟩ := got (hd 5 (by kernel_rfl)) hf
          exact dv_ hK hw (wg (b := false) hf rfl rfl rfl hb8) (r_move hf rfl) rfl
        · intro ρ w a hw hG hf hd K hK
          obtain ⟨o1, o2, o3, o4⟩ := hG
          obtain ⟨_, hf, rfl⟩ := got (hd 5 (by kernel_rfl)) hf
          obtain ⟨_, hf, rfl⟩ := got (hd 6 (by kernel_rfl)) hf
          exact dv_ hK hw (wg (b := false) hf rfl rfl rfl hb8) (r_lss hf rfl rfl) rfl
        · intro ρ w a hw hG hf hd K hK
          obtain ⟨o1, o2, o3, o4⟩ := hG
          obtain ⟨_, hf, rfl⟩ := got (hd 5 (by kernel_rfl)) hf
          obtain ⟨_, hf, rfl⟩ := got (hd 7 (by kernel_rfl)) hf
          exact dv_ hK hw (wn rfl) (r_pick (b := false) hf rfl hb8 rfl) rfl
        · intro ρ w a hw hG hf hd K hK
          obtain ⟨o1, o2, o3, o4⟩ := hG
          obtain ⟨_, hf, rfl⟩ := got (hd 8 (by kernel_rfl)) hf
          exact dv_ hK hw (wn rfl) (r_move hf rfl) rfl
        · intro ρ w a hw hG hf hd K hK
          obtain ⟨o1, o2, o3, o4⟩ := hG
          obtain ⟨_, hf, rfl⟩ := got (hd 9 (by kernel_rfl)) hf
          exact dv_ hK hw (wg (b := false) hf rfl rfl rfl hb9) (r_move hf rfl) rfl
        · intro ρ w a hw hG hf hd K hK
          obtain ⟨o1, o2, o3, o4⟩ := hG
          obtain ⟨_, hf, rfl⟩ := got (hd 9 (by kernel_rfl)) hf
          obtain ⟨_, hf, rfl⟩ := got (hd 10 (by kernel_rfl)) hf
          exact dv_ hK hw (wg (b := false) hf rfl rfl rfl hb9) (r_gtr hf rfl rfl) rfl
        · intro ρ w a hw hG hf hd K hK
          obtain ⟨o1, o2, o3, o4⟩ := hG
          obtain ⟨_, hf, rfl⟩ := got (hd 9 (by kernel_rfl)) hf
          obtain ⟨_, hf, rfl⟩ := got (hd 11 (by kernel_rfl)) hf
          exact dv_ hK hw (wn rfl) (r_pick (b := false) hf rfl hb9 rfl) rfl
        · intro ρ w a hw hG hf hd K hK
          obtain ⟨o1, o2, o3, o4⟩ := hG
          obtain ⟨_, hf, rfl⟩ := got (hd 12 (by kernel_rfl)) hf
          exact dv_ hK hw (wn rfl) (r_move hf rfl) rfl
        · intro ρ w a hw hG hf hd K hK
          obtain ⟨o1, o2, o3, o4⟩ := hG
          obtain ⟨_, hf, rfl⟩ := got (hd 13 (by kernel_rfl)) hf
          exact do_ hK (b := true) hw hf rfl rfl rfl hb10 rfl rfl
        · intro ρ w a hw hG hf hd K hK
          obtain ⟨o1, o2, o3, o4⟩ := hG
          obtain ⟨_, hf, rfl⟩ := got (hd 13 (by kernel_rfl)) hf
          obtain ⟨_, hf, rfl⟩ := got (hd 14 (by kernel_rfl)) hf
          exact do_ hK (b := true) hw hf rfl rfl rfl hb10 rfl rfl
        · intro ρ w a hw hG hf hd K hK
          obtain ⟨o1, o2, o3, o4⟩ := hG
          obtain ⟨_, hf, rfl⟩ := got (hd 13 (by kernel_rfl)) hf
          exact do_ hK (b := true) hw hf rfl rfl rfl hb10 rfl rfl
        · intro ρ w a hw hG hf hd K hK
          obtain ⟨o1, o2, o3, o4⟩ := hG
          obtain ⟨_, hf, rfl⟩ := got (hd 13 (by kernel_rfl)) hf
          obtain ⟨_, hf, rfl⟩ := got (hd 16 (by kernel_rfl)) hf
          exact do_ hK (b := true) hw hf rfl rfl rfl hb10 rfl rfl
        · intro ρ w a hw hG hf hd K hK
          obtain ⟨o1, o2, o3, o4⟩ := hG
          obtain ⟨_, hf, rfl⟩ := got (hd 13 (by kernel_rfl)) hf
          exact do_ hK (b := true) hw hf rfl rfl rfl hb10 rfl rfl
        · intro ρ w a hw hG hf hd K hK
          obtain ⟨o1, o2, o3, o4⟩ := hG
          obtain ⟨_, hf, rfl⟩ := got (hd 13 (by kernel_rfl)) hf
          obtain ⟨_, hf, rfl⟩ := got (hd 17 (by kernel_rfl)) hf
          obtain ⟨_, hf, rfl⟩ := got (hd 18 (by kernel_rfl)) hf
          exact do_ hK (b := true) hw hf rfl rfl rfl hb10 rfl rfl
        · intro ρ w a hw hG hf hd K hK
          obtain ⟨o1, o2, o3, o4⟩ := hG
          obtain ⟨_, hf, rfl⟩ := got (hd 13 (by kernel_rfl)) hf
          exact do_ hK (b := true) hw hf rfl rfl rfl hb10 rfl rfl
      intro ρ w a hw hG hf hd
      obtain ⟨o1, o2, o3, o4⟩ := hG
      obtain ⟨_, hf, rfl⟩ := got (hd 13 (by decide)) hf
      obtain ⟨_, hf, rfl⟩ := got (hd 15 (by decide)) hf
      obtain ⟨_, hf, rfl⟩ := got (hd 19 (by decide)) hf
      obtain ⟨_, hf, rfl⟩ := got (hd 20 (by decide)) hf
      refine st_no (b := true) hf rfl rfl rfl hb10 rfl (by decide) fun a hf => ?_
      refine st_no (b := true) hf rfl rfl rfl hb10 rfl (by decide) fun a hf => ?_
      refine s_ hf (r_pick (b := true) hf rfl hb10 rfl) fun a hf => ?_
      refine s_ hf (r_assign hf rfl) fun a hf => ?_
      refine c_nil ⟨rfl, ?_⟩
      obtain rfl := Option.some.inj hF
      exact ⟨_, hw, hf.sub ⟨rfl, rfl, rfl, rfl, rfl, rfl, trivial⟩, o1, o2, o3, o4⟩
    obtain ⟨x11, hx12, hF⟩ := of_bind hF
    obtain ⟨hc13, hF⟩ := of_guard hF
    replace hf : Fr 99 a [(1, vI a1), (2, vI a2), (4, .pointer (some ((⟨g1, 0, none⟩ : Addr).add 0))), (7, .pointer (some ((⟨g2, 0, none⟩ : Addr).add 0))), (8, .pointer (some ((⟨g3, 0, none⟩ : Addr).add 0)))] := hf.sub ⟨rfl, rfl, rfl, rfl, rfl, trivial⟩
    refine c_drawL (h := 21) mixed (by kernel_rfl) (by kernel_rfl) (fun ρ w => Va ρ w 1 g1 28 ([vI a0.p, vI a0.n, vI a0.m, vI a0.k, va0]) ∧ Va ρ w 2 g2 39 (cForm.enc a3) ∧ Va ρ w 3 g3 28 ([vI 0, vI 0, vI 0, vI 0, (.slice none 0 0)]) ∧ O78 ρ w w0 4 (.slice none 0 0) ([] : List Prod)) ?_ [fun ρ w v => .agg ([vI a0.p, vI a0.n, vI a0.m, vI a0.k, va0]).toArray = v, fun ρ w v => vI a1 = v, fun ρ w v => ∃ v7, v7 = v ∧ O2 ρ w w0 7 v7 ([a1]), fun ρ w v => .bool x6 = v, fun ρ w v => .bool (!x6) = v, fun ρ w v => .bool (!x6) = v, fun ρ w v => vI a2 = v, fun ρ w v => .bool (decide (a2 < 0)) = v, fun ρ w v => .bool (decide (a2 < 0)) = v, fun ρ w v => .bool (decide (a2 < 0)) = v, fun ρ w v => vI a2 = v, fun ρ w v => .bool (decide (2 < a2)) = v, fun ρ w v => .bool (decide (2 < a2)) = v, fun ρ w v => .bool (decide (2 < a2)) = v, fun ρ w v => .pointer (some ((⟨g1, 0, none⟩ : Addr).add (0 + 0))) = v, fun ρ w v => vI a0.p = v, fun ρ w v => .agg ([vI a0.p, vI a0.n, vI a0.m, vI a0.k, va0]).toArray = v, fun ρ w v => .agg (cVec3.enc x11).toArray = v, fun ρ w v => vI a2 = v, fun ρ w v => vI (vg 0 x11 a2) = v, fun ρ w v => .agg (cForm.enc a3).toArray = v] ?_ hw ⟨o1, o2, o3, o4⟩ hf ?_ ?_
    · intro ρ w ρ' w' hE hG
      obtain ⟨o1, o2, o3, o4⟩ := hG
      exact ⟨o1.ext hE, o2.ext hE, o3.ext hE, o4.ext hE⟩
    · exact LastsL.cons (fun _ _ _ _ _ _ h => h) <| LastsL.cons (fun _ _ _ _ _ _ h => h) <| LastsL.cons (fun _ _ _ _ _ hE h => by obtain ⟨v7, h, o7⟩ := h; exact ⟨_, h, o7.ext hE⟩) <| LastsL.cons (fun _ _ _ _ _ _ h => h) <| LastsL.cons (fun _ _ _ _ _ _ h => h) <| LastsL.cons (fun _ _ _ _ _ _ h => h) <| LastsL.cons (fun _ _ _ _ _ _ h => h) <| LastsL.cons (fun _ _ _ _ _ _ h => h) <| LastsL.cons (fun _ _ _ _ _ _ h => h) <| LastsL.cons (fun _ _ _ _ _ _ h => h) <| LastsL.cons (fun _ _ _ _ _ _ h => h) <| LastsL.cons (fun _ _ _ _ _ _ h => h) <| LastsL.cons (fun _ _ _ _ _ _ h => h) <| LastsL.cons (fun _ _ _ _ _ _ h => h) <| LastsL.cons (fun _ _ _ _ _ _ h => h) <| LastsL.cons (fun _ _ _ _ _ _ h => h) <| LastsL.cons (fun _ _ _ _ _ _ h => h) <| LastsL.cons (fun _ _ _ _ _ _ h => h) <| LastsL.cons (fun _ _ _ _ _ _ h => h) <| LastsL.cons (fun _ _ _ _ _ _ h => h) <| LastsL.cons (fun _ _ _ _ _ _ h => h) <| LastsL.nil
    · refine StepsB.cons ?_ <| StepsB.cons ?_ <| StepsB.cons ?_ <| StepsB.cons ?_ <| StepsB.cons ?_ <| StepsB.cons ?_ <| StepsB.cons ?_ <| StepsB.cons ?_ <| StepsB.cons ?_ <| StepsB.cons ?_ <| StepsB.cons ?_ <| StepsB.cons ?_ <| StepsB.cons ?_ <| StepsB.cons ?_ <| StepsB.cons ?_ <| StepsB.cons ?_ <| StepsB.cons ?_ <| StepsB.cons ?_ <| StepsB.cons ?_ <| StepsB.cons ?_ <| StepsB.cons ?_ <| StepsB.nil
      · intro ρ w a hw hG hf hd K hK
        obtain ⟨o1, o2, o3, o4⟩ := hG
        exact dv_ hK hw (wn rfl) (r_load_agg ty28 hf rfl o1.cl rfl) rfl
      · intro ρ w a hw hG hf hd K hK
        obtain ⟨o1, o2, o3, o4⟩ := hG
        exact dv_ hK hw (wn rfl) (r_move hf rfl) rfl
      · intro ρ w a hw hG hf hd K hK
        obtain ⟨o1, o2, o3, o4⟩ := hG
        obtain ⟨_, hf, rfl⟩ := got (hd 1 (by kernel_rfl)) hf
        refine dx_ hK hw (wn rfl) (r_lit (d := fI64) (xs := ([a1] : List Int)) (vs := [vI a1]) 7 Try.underlying61 el2 (Nat.le_of_ble_eq_true rfl) (Nat.le_of_ble_eq_true rfl) hw hf rfl rfl rfl) fun v7 w' hΦ => ?_
        obtain ⟨ρ, hw, hE, o7⟩ := hΦ
        exact ⟨_, hw, hE, ex_ <| an_ rfl <| o7⟩
      · intro ρ w a hw hG hf hd K hK
        obtain ⟨o1, o2, o3, o4⟩ := hG
        obtain ⟨_, hf, rfl⟩ := got (hd 0 (by kernel_rfl)) hf
        obtain ⟨_, hf, ⟨v7, rfl, o7⟩⟩ := got (hd 2 (by kernel_rfl)) hf
        refine dc_ hK hw (wn rfl) (r_fn en75 hf rfl) (impl_isIndex_ok (a0 := a0) (h0.now hw) o7.ro hx7) fun v w' hΦ => ?_
        obtain ⟨hb, hΦ⟩ := hΦ
        obtain rfl := hΦ
        have hE := Ext.new (ρ := ρ) 8 hb
        exact ⟨_, hw.new 8 hb, hE, rfl⟩
      · intro ρ w a hw hG hf hd K hK
        obtain ⟨o1, o2, o3, o4⟩ := hG
        obtain ⟨_, hf, rfl⟩ := got (hd 3 (by kernel_rfl)) hf
        exact dv_ hK hw (wn rfl) (r_not hf rfl) rfl
      · intro ρ w a hw hG hf hd K hK
        obtain ⟨o1, o2, o3, o4⟩ := hG
        obtain ⟨_, hf, rfl⟩ := got (hd 4 (by kernel_rfl)) hf
        exact dv_ hK hw (wn rfl) (r_move hf rfl) rfl
      · intro ρ w a hw hG hf hd K hK
        obtain ⟨o1, o2, o3, o4⟩ := hG
        obtain ⟨_, hf, rfl⟩ := got (hd 5 (by kernel_rfl)) hf
        exact dv_ hK hw (wg (b := false) hf rfl rfl rfl hb8) (r_move hf rfl) rfl
      · intro ρ w a hw hG hf hd K hK
        obtain ⟨o1, o2, o3, o4⟩ := hG
        obtain ⟨_, hf, rfl⟩ := got (hd 5 (by kernel_rfl)) hf
        obtain ⟨_, hf, rfl⟩ := got (hd 6 (by kernel_rfl)) hf
        exact dv_ hK hw (wg (b := false) hf rfl rfl rfl hb8) (r_lss hf rfl rfl) rfl
      · intro ρ w a hw hG hf hd K hK
        obtain ⟨o1, o2, o3, o4⟩ := hG
        obtain ⟨_, hf, rfl⟩ := got (hd 5 (by kernel_rfl)) hf
        obtain ⟨_, hf, rfl⟩ := got (hd 7 (by kernel_rfl)) hf
        exact dv_ hK hw (wn rfl) (r_pick (b := false) hf rfl hb8 rfl) rfl
      · intro ρ w a hw hG hf hd K hK
        obtain ⟨o1, o2, o3, o4⟩ := hG
        obtain ⟨_, hf, rfl⟩ := got (hd 8 (by kernel_rfl)) hf
        exact dv_ hK hw (wn rfl) (r_move hf rfl) rfl
      · intro ρ w a hw hG hf hd K hK
        obtain ⟨o1, o2, o3, o4⟩ := hG
        obtain ⟨_, hf, rfl⟩ := got (hd 9 (by kernel_rfl)) hf
        exact dv_ hK hw (wg (b := false) hf rfl rfl rfl hb9) (r_move hf rfl) rfl
      · intro ρ w a hw hG hf hd K hK
        obtain ⟨o1, o2, o3, o4⟩ := hG
        obtain ⟨_, hf, rfl⟩ := got (hd 9 (by kernel_rfl)) hf
        obtain ⟨_, hf, rfl⟩ := got (hd 10 (by kernel_rfl)) hf
        exact dv_ hK hw (wg (b := false) hf rfl rfl rfl hb9) (r_gtr hf rfl rfl) rfl
      · intro ρ w a hw hG hf hd K hK
        obtain ⟨o1, o2, o3, o4⟩ := hG
        obtain ⟨_, hf, rfl⟩ := got (hd 9 (by kernel_rfl)) hf
        obtain ⟨_, hf, rfl⟩ := got (hd 11 (by kernel_rfl)) hf
        exact dv_ hK hw (wn rfl) (r_pick (b := false) hf rfl hb9 rfl) rfl
      · intro ρ w a hw hG hf hd K hK
        obtain ⟨o1, o2, o3, o4⟩ := hG
        obtain ⟨_, hf, rfl⟩ := got (hd 12 (by kernel_rfl)) hf
        exact dv_ hK hw (wn rfl) (r_move hf rfl) rfl
      · intro ρ w a hw hG hf hd K hK
        obtain ⟨o1, o2, o3, o4⟩ := hG
        obtain ⟨_, hf, rfl⟩ := got (hd 13 (by kernel_rfl)) hf
        exact dv_ hK hw (wg (b := false) hf rfl rfl rfl hb10) (r_fa fa28_0 hf rfl) rfl
      · intro ρ w a hw hG hf hd K hK
        obtain ⟨o1, o2, o3, o4⟩ := hG
        obtain ⟨_, hf, rfl⟩ := got (hd 13 (by kernel_rfl)) hf
        obtain ⟨_, hf, rfl⟩ := got (hd 14 (by kernel_rfl)) hf
        exact dv_ hK hw (wg (b := false) hf rfl rfl rfl hb10) (r_load_cell ty2 hf rfl (o1.cl.at_ 0 _ rfl)) rfl
      · intro ρ w a hw hG hf hd K hK
        obtain ⟨o1, o2, o3, o4⟩ := hG
        obtain ⟨_, hf, rfl⟩ := got (hd 13 (by kernel_rfl)) hf
        exact dv_ hK hw (wg (b := false) hf rfl rfl rfl hb10) (r_load_agg ty28 hf rfl o1.cl rfl) rfl
      · intro ρ w a hw hG hf hd K hK
        obtain ⟨o1, o2, o3, o4⟩ := hG
        obtain ⟨_, hf, rfl⟩ := got (hd 13 (by kernel_rfl)) hf
        obtain ⟨_, hf, rfl⟩ := got (hd 16 (by kernel_rfl)) hf
        refine dc_ hK hw (wg (b := false) hf rfl rfl rfl hb10) (r_fn en86 hf rfl) (impl_placesOf_ok (a0 := a0) (h0.now hw) hx12) fun v w' hΦ => ?_
        obtain ⟨hb, hΦ⟩ := hΦ
        obtain rfl := hΦ
        have hE := Ext.new (ρ := ρ) 9 hb
        exact ⟨_, hw.new 9 hb, hE, rfl⟩
      · intro ρ w a hw hG hf hd K hK
        obtain ⟨o1, o2, o3, o4⟩ := hG
        obtain ⟨_, hf, rfl⟩ := got (hd 13 (by kernel_rfl)) hf
        exact dv_ hK hw (wg (b := false) hf rfl rfl rfl hb10) (r_move hf rfl) rfl
      · intro ρ w a hw hG hf hd K hK
        obtain ⟨o1, o2, o3, o4⟩ := hG
        obtain ⟨_, hf, rfl⟩ := got (hd 13 (by kernel_rfl)) hf
        obtain ⟨_, hf, rfl⟩ := got (hd 17 (by kernel_rfl)) hf
        obtain ⟨_, hf, rfl⟩ := got (hd 18 (by kernel_rfl)) hf
        exact dv_ hK hw (wg (b := false) hf rfl rfl rfl hb10) (r_index_lc Try.underlying89 ty2 hf rfl rfl hc13.1 hc13.2 (Lens.vec 0 fI64 a2 hc13.1 hc13.2) rfl) rfl
      · intro ρ w a hw hG hf hd K hK
        obtain ⟨o1, o2, o3, o4⟩ := hG
        obtain ⟨_, hf, rfl⟩ := got (hd 13 (by kernel_rfl)) hf
        exact dv_ hK hw (wg (b := false) hf rfl rfl rfl hb10) (r_load_agg ty39 hf rfl o2.cl (cForm.len _)) rfl
    intro ρ w a hw hG hf hd
    obtain ⟨o1, o2, o3, o4⟩ := hG
    obtain ⟨_, hf, rfl⟩ := got (hd 13 (by decide)) hf
    obtain ⟨_, hf, rfl⟩ := got (hd 15 (by decide)) hf
    obtain ⟨_, hf, rfl⟩ := got (hd 19 (by decide)) hf
    obtain ⟨_, hf, rfl⟩ := got (hd 20 (by decide)) hf
    obtain ⟨x14, hx15, hF⟩ := of_bind hF
    refine st_gfn (b := false) 10 hw hf rfl rfl rfl hb10 rfl (by decide) (r_fn en85 hf rfl) (impl_isForm_ok  hx15) fun a v w ρ hf hw hE hN hΦ => ?_
    obtain rfl := hΦ
    replace o1 := o1.ext hE
    replace o2 := o2.ext hE
    replace o3 := o3.ext hE
    replace o4 := o4.ext hE
    refine st_g (b := false) hf rfl rfl rfl hb10 rfl (by decide) (r_not hf rfl) fun a hf => ?_
    refine s_ hf (r_pick (b := false) hf rfl hb10 rfl) fun a hf => ?_
    refine s_ hf (r_assign hf rfl) fun a hf => ?_
    refine c_nil ⟨rfl, ?_⟩
    obtain rfl := Option.some.inj hF
    exact ⟨_, hw, hf.sub ⟨rfl, rfl, rfl, rfl, rfl, rfl, trivial⟩, o1, o2, o3, o4⟩
  rintro a w ⟨ρ, hw, hf, o1, o2, o3, o4⟩
  have hF := hG4
  refine n_then ?_
  rcases of_ite hF with ⟨hb16, hF⟩ | ⟨hb16, hF⟩
  · refine c_ift hf rfl hb16 <| c_seq <| c_region ?_
    have o11 : Ow (kf cProd) 78 ρ w w0.heap.size 11 (.slice none 0 0) [] := Ow.nil _ _ _ _ _ _
    refine s_ hf (r_build_struct (pl := [(0, 1), (1, 1), (2, 1), (3, 1), (4, 1)]) (vs := []) (res := ([vI 0, vI 0, vI 0, vI 0, (.slice none 0 0)]).toArray) Try.underlying28 (by kernel_rfl) ze28 hf rfl rfl rfl) fun a hf => ?_
    refine sk_ hf (r_store_w (cs' := [vI 0, vI 0, vI 0, vI 0, (.slice none 0 0)]) hw o3 (by decide) ty28 rfl rfl (one_sch o11.ro.one) hf rfl rfl rfl) fun a w hf hΦ => ?_
    obtain ⟨hw, hA, o3⟩ := hΦ
    replace o1 := o1.adv hA (by decide)
    replace o2 := o2.adv hA (by decide)
    replace o4 := o4.adv hA (by decide)
    replace o11 := o11.adv hA (by decide)
    refine s_ hf (r_assign hf rfl) fun a hf => ?_
    refine c_nt <| c_retc ?_
    obtain rfl := Option.some.inj hF
    refine r_block <| r_then <| c_ret hf (res_ct Try.results26 ty28 hf rfl o3.cl rfl rfl) ?_
    exact ⟨_, rfl, hw.below, ⟨_, rfl, o11.out⟩⟩
  refine c_iff hf rfl hb16 <| c_skip <| n_block <| n_then <| c_seq <| c_region ?_
  refine s_ hf (r_fa fa28_4 hf rfl) fun a hf => ?_
  refine s_ hf (r_load_cell ty26 hf rfl (o1.cl.at_ 4 _ rfl)) fun a hf => ?_
  refine s_ hf (r_move hf rfl) fun a hf => ?_
  obtain ⟨hc17, hF⟩ := of_guard hF
  obtain ⟨ad18, c18, he18, hl18⟩ := Ro.el cProd h0 zProd hc17.1 hc17.2
  refine s_ hf (r_idx Try.underlying26 sz78 hf rfl ⟨_, he18⟩ rfl hc17.1 hc17.2) fun a hf => ?_
  refine s_ hf (r_load_agg ty78 hf rfl (hl18.below hw.below) (cProd.len _)) fun a hf => ?_
  obtain ⟨x19, hx20, hF⟩ := of_bind hF
  refine st_fn 12 hw hf rfl rfl (by decide) (r_fn en87 hf rfl) (impl_factors_ok  hx20) fun a v w ρ hf hw hE hN hΦ => ?_
  obtain rfl := hΦ
  replace o1 := o1.ext hE
  replace o2 := o2.ext hE
  replace o3 := o3.ext hE
  replace o4 := o4.ext hE
  refine sx_ hf (r_alloc (cs := cForms.enc zForms) 13 ze91 rfl hw) fun a v w hf hΦ => ?_
  obtain ⟨g13, ρ, rfl, hw, hE, o13⟩ := hΦ
  replace o1 := o1.ext hE
  replace o2 := o2.ext hE
  replace o3 := o3.ext hE
  replace o4 := o4.ext hE
  refine sk_ hf (r_store_w (cs' := cForms.enc x19) hw o13 (by decide) ty91 (cForms.len _) (cForms.len _) (cForms.one _) hf rfl rfl rfl) fun a w hf hΦ => ?_
  obtain ⟨hw, hA, o13⟩ := hΦ
  replace o1 := o1.adv hA (by decide)
  replace o2 := o2.adv hA (by decide)
  replace o3 := o3.adv hA (by decide)
  replace o4 := o4.adv hA (by decide)
  refine c_nt <| c_seq <| c_region ?_
  refine s_ hf (r_load_agg ty91 hf rfl o13.cl (cForms.len _)) fun a hf => ?_
  refine sx_ hf (r_alloc (cs := cForms.enc zForms) 14 ze91 rfl hw) fun a v w hf hΦ => ?_
  obtain ⟨g14, ρ, rfl, hw, hE, o14⟩ := hΦ
  replace o1 := o1.ext hE
  replace o2 := o2.ext hE
  replace o3 := o3.ext hE
  replace o4 := o4.ext hE
  replace o13 := o13.ext hE
  refine sk_ hf (r_store_w (cs' := cForms.enc x19) hw o14 (by decide) ty91 (cForms.len _) (cForms.len _) (cForms.one _) hf rfl rfl rfl) fun a w hf hΦ => ?_
  obtain ⟨hw, hA, o14⟩ := hΦ
  replace o1 := o1.adv hA (by decide)
  replace o2 := o2.adv hA (by decide)
  replace o3 := o3.adv hA (by decide)
  replace o4 := o4.adv hA (by decide)
  replace o13 := o13.adv hA (by decide)
  refine c_nt <| c_seq <| c_block <| c_seq ?_
  obtain ⟨s22, hT21, hG21⟩ := of_bind hF
  clear hF
  refine c_meet (fun (s22 : Bool) a w => ∃ ρ, Wd w0 ρ w ∧ Fr 99 a [(1, vI a1), (2, vI a2), (4, .pointer (some ((⟨g1, 0, none⟩ : Addr).add 0))), (7, .pointer (some ((⟨g2, 0, none⟩ : Addr).add 0))), (8, .pointer (some ((⟨g3, 0, none⟩ : Addr).add 0))), (10, .pointer (some ((⟨g13, 0, none⟩ : Addr).add 0))), (11, .pointer (some ((⟨g14, 0, none⟩ : Addr).add 0))), (51, .bool s22)] ∧ Va ρ w 1 g1 28 ([vI a0.p, vI a0.n, vI a0.m, vI a0.k, va0]) ∧ Va ρ w 2 g2 39 (cForm.enc a3) ∧ Va ρ w 3 g3 28 ([vI 0, vI 0, vI 0, vI 0, (.slice none 0 0)]) ∧ O78 ρ w w0 4 (.slice none 0 0) ([] : List Prod) ∧ Va ρ w 13 g13 91 (cForms.enc x19) ∧ Va ρ w 14 g14 91 (cForms.enc x19)) s22 ?_ ?_
  · have hF := hT21
    rcases of_ite hF with ⟨hb23, hF⟩ | ⟨hb23, hF⟩
    · replace hf : Fr 99 a [(1, vI a1), (2, vI a2), (4, .pointer (some ((⟨g1, 0, none⟩ : Addr).add 0))), (7, .pointer (some ((⟨g2, 0, none⟩ : Addr).add 0))), (8, .pointer (some ((⟨g3, 0, none⟩ : Addr).add 0))), (10, .pointer (some ((⟨g13, 0, none⟩ : Addr).add 0))), (11, .pointer (some ((⟨g14, 0, none⟩ : Addr).add 0)))] := hf.sub ⟨rfl, rfl, rfl, rfl, rfl, rfl, rfl, trivial⟩
      refine c_drawL (h := 8) mixed (by kernel_rfl) (by kernel_rfl) (fun ρ w => Va ρ w 1 g1 28 ([vI a0.p, vI a0.n, vI a0.m, vI a0.k, va0]) ∧ Va ρ w 2 g2 39 (cForm.enc a3) ∧ Va ρ w 3 g3 28 ([vI 0, vI 0, vI 0, vI 0, (.slice none 0 0)]) ∧ O78 ρ w w0 4 (.slice none 0 0) ([] : List Prod) ∧ Va ρ w 13 g13 91 (cForms.enc x19) ∧ Va ρ w 14 g14 91 (cForms.enc x19)) ?_ [fun ρ w v => .agg (cForm.enc a3).toArray = v, fun ρ w v => .agg (cForm.enc zForm).toArray = v, fun ρ w v => .bool (decide (a3 = zForm)) = v, fun ρ w v => .bool (decide (a3 = zForm)) = v, fun ρ w v => undef = v, fun ρ w v => undef = v, fun ρ w v => undef = v, fun ρ w v => undef = v] ?_ hw ⟨o1, o2, o3, o4, o13, o14⟩ hf ?_ ?_
      · intro ρ w ρ' w' hE hG
        obtain ⟨o1, o2, o3, o4, o13, o14⟩ := hG
        exact ⟨o1.ext hE, o2.ext hE, o3.ext hE, o4.ext hE, o13.ext hE, o14.ext hE⟩
      · exact LastsL.cons (fun _ _ _ _ _ _ h => h) <| LastsL.cons (fun _ _ _ _ _ _ h => h) <| LastsL.cons (fun _ _ _ _ _ _ h => h) <| LastsL.cons (fun _ _ _ _ _ _ h => h) <| LastsL.cons (fun _ _ _ _ _ _ h => h) <| LastsL.cons (fun _ _ _ _ _ _ h => h) <| LastsL.cons (fun _ _ _ _ _ _ h => h) <| LastsL.cons (fun _ _ _ _ _ _ h => h) <| LastsL.nil
      · refine StepsB.cons ?_ <| StepsB.cons ?_ <| StepsB.cons ?_ <| StepsB.cons ?_ <| StepsB.cons ?_ <| StepsB.cons ?_ <| StepsB.cons ?_ <| StepsB.cons ?_ <| StepsB.nil
        · intro ρ w a hw hG hf hd K hK
          obtain ⟨o1, o2, o3, o4, o13, o14⟩ := hG
          exact dv_ hK hw (wn rfl) (r_load_agg ty39 hf rfl o2.cl (cForm.len _)) rfl
        · intro ρ w a hw hG hf hd K hK
          obtain ⟨o1, o2, o3, o4, o13, o14⟩ := hG
          exact dv_ hK hw (wn rfl) (r_build_arr (vs := []) (res := (cForm.enc zForm).toArray) Try.underlying39 sz5 ze39 hf rfl rfl rfl) rfl
        · intro ρ w a hw hG hf hd K hK
          obtain ⟨o1, o2, o3, o4, o13, o14⟩ := hG
          obtain ⟨_, hf, rfl⟩ := got (hd 0 (by kernel_rfl)) hf
          obtain ⟨_, hf, rfl⟩ := got (hd 1 (by kernel_rfl)) hf
          exact dv_ hK hw (wn rfl) (r_eq (d := cForm) eq39 ⟨_, rfl⟩ gt39 hf rfl rfl) rfl
        · intro ρ w a hw hG hf hd K hK
          obtain ⟨o1, o2, o3, o4, o13, o14⟩ := hG
          obtain ⟨_, hf, rfl⟩ := got (hd 2 (by kernel_rfl)) hf
          exact dv_ hK hw (wn rfl) (r_move hf rfl) rfl
        · intro ρ w a hw hG hf hd K hK
          obtain ⟨o1, o2, o3, o4, o13, o14⟩ := hG
          obtain ⟨_, hf, rfl⟩ := got (hd 3 (by kernel_rfl)) hf
          exact do_ hK (b := true) hw hf rfl rfl rfl hb23 rfl rfl
        · intro ρ w a hw hG hf hd K hK
          obtain ⟨o1, o2, o3, o4, o13, o14⟩ := hG
          obtain ⟨_, hf, rfl⟩ := got (hd 3 (by kernel_rfl)) hf
          exact do_ hK (b := true) hw hf rfl rfl rfl hb23 rfl rfl
        · intro ρ w a hw hG hf hd K hK
          obtain ⟨o1, o2, o3, o4, o13, o14⟩ := hG
          obtain ⟨_, hf, rfl⟩ := got (hd 3 (by kernel_rfl)) hf
          obtain ⟨_, hf, rfl⟩ := got (hd 5 (by kernel_rfl)) hf
          exact do_ hK (b := true) hw hf rfl rfl rfl hb23 rfl rfl
        · intro ρ w a hw hG hf hd K hK
          obtain ⟨o1, o2, o3, o4, o13, o14⟩ := hG
          obtain ⟨_, hf, rfl⟩ := got (hd 3 (by kernel_rfl)) hf
          obtain ⟨_, hf, rfl⟩ := got (hd 6 (by kernel_rfl)) hf
          exact do_ hK (b := true) hw hf rfl rfl rfl hb23 rfl rfl
      intro ρ w a hw hG hf hd
      obtain ⟨o1, o2, o3, o4, o13, o14⟩ := hG
      obtain ⟨_, hf, rfl⟩ := got (hd 3 (by decide)) hf
      obtain ⟨_, hf, rfl⟩ := got (hd 4 (by decide)) hf
      obtain ⟨_, hf, rfl⟩ := got (hd 7 (by decide)) hf
      refine st_no (b := true) hf rfl rfl rfl hb23 rfl (by decide) fun a hf => ?_
      refine s_ hf (r_pick (b := true) hf rfl hb23 rfl) fun a hf => ?_
      refine s_ hf (r_assign hf rfl) fun a hf => ?_
      refine c_nil ⟨rfl, ?_⟩
      obtain rfl := Option.some.inj hF
      exact ⟨_, hw, hf.sub ⟨rfl, rfl, rfl, rfl, rfl, rfl, rfl, rfl, trivial⟩, o1, o2, o3, o4, o13, o14⟩
    obtain ⟨hc24, hF⟩ := of_guard hF
    replace hf : Fr 99 a [(1, vI a1), (2, vI a2), (4, .pointer (some ((⟨g1, 0, none⟩ : Addr).add 0))), (7, .pointer (some ((⟨g2, 0, none⟩ : Addr).add 0))), (8, .pointer (some ((⟨g3, 0, none⟩ : Addr).add 0))), (10, .pointer (some ((⟨g13, 0, none⟩ : Addr).add 0))), (11, .pointer (some ((⟨g14, 0, none⟩ : Addr).add 0)))] := hf.sub ⟨rfl, rfl, rfl, rfl, rfl, rfl, rfl, trivial⟩
    refine c_drawL (h := 8) mixed (by kernel_rfl) (by kernel_rfl) (fun ρ w => Va ρ w 1 g1 28 ([vI a0.p, vI a0.n, vI a0.m, vI a0.k, va0]) ∧ Va ρ w 2 g2 39 (cForm.enc a3) ∧ Va ρ w 3 g3 28 ([vI 0, vI 0, vI 0, vI 0, (.slice none 0 0)]) ∧ O78 ρ w w0 4 (.slice none 0 0) ([] : List Prod) ∧ Va ρ w 13 g13 91 (cForms.enc x19) ∧ Va ρ w 14 g14 91 (cForms.enc x19)) ?_ [fun ρ w v => .agg (cForm.enc a3).toArray = v, fun ρ w v => .agg (cForm.enc zForm).toArray = v, fun ρ w v => .bool (decide (a3 = zForm)) = v, fun ρ w v => .bool (decide (a3 = zForm)) = v, fun ρ w v => .agg (cForm.enc a3).toArray = v, fun ρ w v => vI a2 = v, fun ρ w v => .pointer (some ((⟨g13, 0, none⟩ : Addr).add (0 + a2.toNat * 9))) = v, fun ρ w v => .agg (cForm.enc (vg zForm x19 a2)).toArray = v] ?_ hw ⟨o1, o2, o3, o4, o13, o14⟩ hf ?_ ?_
    · intro ρ w ρ' w' hE hG
      obtain ⟨o1, o2, o3, o4, o13, o14⟩ := hG
      exact ⟨o1.ext hE, o2.ext hE, o3.ext hE, o4.ext hE, o13.ext hE, o14.ext hE⟩
    · exact LastsL.cons (fun _ _ _ _ _ _ h => h) <| LastsL.cons (fun _ _ _ _ _ _ h => h) <| LastsL.cons (fun _ _ _ _ _ _ h => h) <| LastsL.cons (fun _ _ _ _ _ _ h => h) <| LastsL.cons (fun _ _ _ _ _ _ h => h) <| LastsL.cons (fun _ _ _ _ _ _ h => h) <| LastsL.cons (fun _ _ _ _ _ _ h => h) <| LastsL.cons (fun _ _ _ _ _ _ h => h) <| LastsL.nil
    · refine StepsB.cons ?_ <| StepsB.cons ?_ <| StepsB.cons ?_ <| StepsB.cons ?_ <| StepsB.cons ?_ <| StepsB.cons ?_ <| StepsB.cons ?_ <| StepsB.cons ?_ <| StepsB.nil
      · intro ρ w a hw hG hf hd K hK
        obtain ⟨o1, o2, o3, o4, o13, o14⟩ := hG
        exact dv_ hK hw (wn rfl) (r_load_agg ty39 hf rfl o2.cl (cForm.len _)) rfl
      · intro ρ w a hw hG hf hd K hK
        obtain ⟨o1, o2, o3, o4, o13, o14⟩ := hG
        exact dv_ hK hw (wn rfl) (r_build_arr (vs := []) (res := (cForm.enc zForm).toArray) Try.underlying39 sz5 ze39 hf rfl rfl rfl) rfl
      · intro ρ w a hw hG hf hd K hK
        obtain ⟨o1, o2, o3, o4, o13, o14⟩ := hG
        obtain ⟨_, hf, rfl⟩ := got (hd 0 (by kernel_rfl)) hf
        obtain ⟨_, hf, rfl⟩ := got (hd 1 (by kernel_rfl)) hf
        exact dv_ hK hw (wn rfl) (r_eq (d := cForm) eq39 ⟨_, rfl⟩ gt39 hf rfl rfl) rfl
      · intro ρ w a hw hG hf hd K hK
        obtain ⟨o1, o2, o3, o4, o13, o14⟩ := hG
        obtain ⟨_, hf, rfl⟩ := got (hd 2 (by kernel_rfl)) hf
        exact dv_ hK hw (wn rfl) (r_move hf rfl) rfl
      · intro ρ w a hw hG hf hd K hK
        obtain ⟨o1, o2, o3, o4, o13, o14⟩ := hG
        obtain ⟨_, hf, rfl⟩ := got (hd 3 (by kernel_rfl)) hf
        exact dv_ hK hw (wg (b := false) hf rfl rfl rfl hb23) (r_load_agg ty39 hf rfl o2.cl (cForm.len _)) rfl
      · intro ρ w a hw hG hf hd K hK
        obtain ⟨o1, o2, o3, o4, o13, o14⟩ := hG
        obtain ⟨_, hf, rfl⟩ := got (hd 3 (by kernel_rfl)) hf
        exact dv_ hK hw (wg (b := false) hf rfl rfl rfl hb23) (r_move hf rfl) rfl
      · intro ρ w a hw hG hf hd K hK
        obtain ⟨o1, o2, o3, o4, o13, o14⟩ := hG
        obtain ⟨_, hf, rfl⟩ := got (hd 3 (by kernel_rfl)) hf
        obtain ⟨_, hf, rfl⟩ := got (hd 5 (by kernel_rfl)) hf
        exact dv_ hK hw (wg (b := false) hf rfl rfl rfl hb23) (r_indexAddr_arr Try.underlying91 sz39 hf rfl rfl hc24.1 hc24.2) rfl
      · intro ρ w a hw hG hf hd K hK
        obtain ⟨o1, o2, o3, o4, o13, o14⟩ := hG
        obtain ⟨_, hf, rfl⟩ := got (hd 3 (by kernel_rfl)) hf
        obtain ⟨_, hf, rfl⟩ := got (hd 6 (by kernel_rfl)) hf
        exact dv_ hK hw (wg (b := false) hf rfl rfl rfl hb23) (r_load_agg ty39 hf rfl (o13.cl.lens (Lens.vec zForm cForm a2 hc24.1 hc24.2)) (cForm.len _)) rfl
    intro ρ w a hw hG hf hd
    obtain ⟨o1, o2, o3, o4, o13, o14⟩ := hG
    obtain ⟨_, hf, rfl⟩ := got (hd 3 (by decide)) hf
    obtain ⟨_, hf, rfl⟩ := got (hd 4 (by decide)) hf
    obtain ⟨_, hf, rfl⟩ := got (hd 7 (by decide)) hf
    refine st_g (b := false) hf rfl rfl rfl hb23 rfl (by decide) (r_eq (d := cForm) eq39 ⟨_, rfl⟩ gt39 hf rfl rfl) fun a hf => ?_
    refine s_ hf (r_pick (b := false) hf rfl hb23 rfl) fun a hf => ?_
    refine s_ hf (r_assign hf rfl) fun a hf => ?_
    refine c_nil ⟨rfl, ?_⟩
    obtain rfl := Option.some.inj hF
    exact ⟨_, hw, hf.sub ⟨rfl, rfl, rfl, rfl, rfl, rfl, rfl, rfl, trivial⟩, o1, o2, o3, o4, o13, o14⟩
  rintro a w ⟨ρ, hw, hf, o1, o2, o3, o4, o13, o14⟩
  have hF := hG21
  refine n_then ?_
  rcases of_ite hF with ⟨hb25, hF⟩ | ⟨hb25, hF⟩
  · refine c_ift hf rfl hb25 <| c_seq <| c_region ?_
    have o15 : Ow (kf cProd) 78 ρ w w0.heap.size 15 (.slice none 0 0) [] := Ow.nil _ _ _ _ _ _
    refine s_ hf (r_build_struct (pl := [(0, 1), (1, 1), (2, 1), (3, 1), (4, 1)]) (vs := []) (res := ([vI 0, vI 0, vI 0, vI 0, (.slice none 0 0)]).toArray) Try.underlying28 (by kernel_rfl) ze28 hf rfl rfl rfl) fun a hf => ?_
    refine sk_ hf (r_store_w (cs' := [vI 0, vI 0, vI 0, vI 0, (.slice none 0 0)]) hw o3 (by decide) ty28 rfl rfl (one_sch o15.ro.one) hf rfl rfl rfl) fun a w hf hΦ => ?_
    obtain ⟨hw, hA, o3⟩ := hΦ
    replace o1 := o1.adv hA (by decide)
    replace o2 := o2.adv hA (by decide)
    replace o4 := o4.adv hA (by decide)
    replace o13 := o13.adv hA (by decide)
    replace o14 := o14.adv hA (by decide)
    replace o15 := o15.adv hA (by decide)
    refine s_ hf (r_assign hf rfl) fun a hf => ?_
    refine c_nt <| c_retc ?_
    obtain rfl := Option.some.inj hF
    refine r_block <| r_then <| c_ret hf (res_ct Try.results26 ty28 hf rfl o3.cl rfl rfl) ?_
    exact ⟨_, rfl, hw.below, ⟨_, rfl, o15.out⟩⟩
  refine c_iff hf rfl hb25 <| c_seq <| c_region ?_
  refine s_ hf (r_fa fa28_4 hf rfl) fun a hf => ?_
  refine s_ hf (r_load_cell ty26 hf rfl (o1.cl.at_ 4 _ rfl)) fun a hf => ?_
  refine s_ hf (r_len Try.underlying26 (h0.now hw) hf rfl) fun a hf => ?_
  refine s_ hf (r_eql hf rfl rfl) fun a hf => ?_
  refine s_ hf (r_assign hf rfl) fun a hf => ?_
  refine c_nt ?_
  rcases of_ite hF with ⟨hb26, hF⟩ | ⟨hb26, hF⟩
  · refine c_ift hf rfl hb26 <| c_seq <| c_region ?_
    have o16 : Ow (kf cProd) 78 ρ w w0.heap.size 16 (.slice none 0 0) [] := Ow.nil _ _ _ _ _ _
    refine s_ hf (r_build_struct (pl := [(0, 1), (1, 1), (2, 1), (3, 1), (4, 1)]) (vs := []) (res := ([vI 0, vI 0, vI 0, vI 0, (.slice none 0 0)]).toArray) Try.underlying28 (by kernel_rfl) ze28 hf rfl rfl rfl) fun a hf => ?_
    refine sk_ hf (r_store_w (cs' := [vI 0, vI 0, vI 0, vI 0, (.slice none 0 0)]) hw o3 (by decide) ty28 rfl rfl (one_sch o16.ro.one) hf rfl rfl rfl) fun a w hf hΦ => ?_
    obtain ⟨hw, hA, o3⟩ := hΦ
    replace o1 := o1.adv hA (by decide)
    replace o2 := o2.adv hA (by decide)
    replace o4 := o4.adv hA (by decide)
    replace o13 := o13.adv hA (by decide)
    replace o14 := o14.adv hA (by decide)
    replace o16 := o16.adv hA (by decide)
    refine s_ hf (r_assign hf rfl) fun a hf => ?_
    refine c_nt <| c_retc ?_
    obtain rfl := Option.some.inj hF
    refine r_block <| r_then <| c_ret hf (res_ct Try.results26 ty28 hf rfl o3.cl rfl rfl) ?_
    exact ⟨_, rfl, hw.below, ⟨_, rfl, o16.out⟩⟩
  refine c_iff hf rfl hb26 <| c_skip <| n_block <| n_then <| c_seq <| c_region ?_
  refine s_ hf (r_move hf rfl) fun a hf => ?_
  refine s_ hf (r_load_agg ty39 hf rfl o2.cl (cForm.len _)) fun a hf => ?_
  obtain ⟨hc27, hF⟩ := of_guard hF
  refine s_ hf (r_indexAddr_arr Try.underlying91 sz39 hf rfl rfl hc27.1 hc27.2) fun a hf => ?_
  refine sk_ hf (r_store_l (b := a3) hw o13 (by decide) (Lens.vec zForm cForm a2 hc27.1 hc27.2) (by simp only [Nat.zero_add] <;> rfl) ty39 hf rfl rfl rfl) fun a w hf hΦ => ?_
  obtain ⟨hw, hA, o13⟩ := hΦ
  replace o1 := o1.adv hA (by decide)
  replace o2 := o2.adv hA (by decide)
  replace o3 := o3.adv hA (by decide)
  replace o4 := o4.adv hA (by decide)
  replace o14 := o14.adv hA (by decide)
  refine c_nt <| c_seq ?_
  obtain ⟨x28, hx29, hF⟩ := of_bind hF
  replace hf : Fr 99 a [(1, vI a1), (2, vI a2), (4, .pointer (some ((⟨g1, 0, none⟩ : Addr).add 0))), (7, .pointer (some ((⟨g2, 0, none⟩ : Addr).add 0))), (8, .pointer (some ((⟨g3, 0, none⟩ : Addr).add 0))), (10, .pointer (some ((⟨g13, 0, none⟩ : Addr).add 0))), (11, .pointer (some ((⟨g14, 0, none⟩ : Addr).add 0)))] := hf.sub ⟨rfl, rfl, rfl, rfl, rfl, rfl, rfl, trivial⟩
  refine c_drawL (h := 11) mixed (by kernel_rfl) (by kernel_rfl) (fun ρ w => Va ρ w 1 g1 28 ([vI a0.p, vI a0.n, vI a0.m, vI a0.k, va0]) ∧ Va ρ w 2 g2 39 (cForm.enc a3) ∧ Va ρ w 3 g3 28 ([vI 0, vI 0, vI 0, vI 0, (.slice none 0 0)]) ∧ O78 ρ w w0 4 (.slice none 0 0) ([] : List Prod) ∧ Va ρ w 13 g13 91 (cForms.enc (vs x19 a2 a3)) ∧ Va ρ w 14 g14 91 (cForms.enc x19)) ?_ [fun ρ w v => vI a2 = v, fun ρ w v => .pointer (some ((⟨g1, 0, none⟩ : Addr).add (0 + 0))) = v, fun ρ w v => vI a0.p = v, fun ρ w v => vI a2 = v, fun ρ w v => .pointer (some ((⟨g14, 0, none⟩ : Addr).add (0 + a2.toNat * 9))) = v, fun ρ w v => .agg (cForm.enc (vg zForm x19 a2)).toArray = v, fun ρ w v => .agg (cForm.enc a3).toArray = v, fun ρ w v => .pointer (some ((⟨g1, 0, none⟩ : Addr).add (0 + 0))) = v, fun ρ w v => vI a0.p = v, fun ρ w v => vI (w64 (a0.p - 1)) = v, fun ρ w v => .agg (cForm.enc x28).toArray = v] ?_ hw ⟨o1, o2, o3, o4, o13, o14⟩ hf ?_ ?_
  · intro ρ w ρ' w' hE hG
    obtain ⟨o1, o2, o3, o4, o13, o14⟩ := hG
    exact ⟨o1.ext hE, o2.ext hE, o3.ext hE, o4.ext hE, o13.ext hE, o14.ext hE⟩
  · exact LastsL.cons (fun _ _ _ _ _ _ h => h) <| LastsL.cons (fun _ _ _ _ _ _ h => h) <| LastsL.cons (fun _ _ _ _ _ _ h => h) <| LastsL.cons (fun _ _ _ _ _ _ h => h) <| LastsL.cons (fun _ _ _ _ _ _ h => h) <| LastsL.cons (fun _ _ _ _ _ _ h => h) <| LastsL.cons (fun _ _ _ _ _ _ h => h) <| LastsL.cons (fun _ _ _ _ _ _ h => h) <| LastsL.cons (fun _ _ _ _ _ _ h => h) <| LastsL.cons (fun _ _ _ _ _ _ h => h) <| LastsL.cons (fun _ _ _ _ _ _ h => h) <| LastsL.nil
  · refine StepsB.cons ?_ <| StepsB.cons ?_ <| StepsB.cons ?_ <| StepsB.cons ?_ <| StepsB.cons ?_ <| StepsB.cons ?_ <| StepsB.cons ?_ <| StepsB.cons ?_ <| StepsB.cons ?_ <| StepsB.cons ?_ <| StepsB.cons ?_ <| StepsB.nil
    · intro ρ w a hw hG hf hd K hK
      obtain ⟨o1, o2, o3, o4, o13, o14⟩ := hG
      exact dv_ hK hw (wn rfl) (r_move hf rfl) rfl
    · intro ρ w a hw hG hf hd K hK
      obtain ⟨o1, o2, o3, o4, o13, o14⟩ := hG
      exact dv_ hK hw (wn rfl) (r_fa fa28_0 hf rfl) rfl
    · intro ρ w a hw hG hf hd K hK
      obtain ⟨o1, o2, o3, o4, o13, o14⟩ := hG
      obtain ⟨_, hf, rfl⟩ := got (hd 1 (by kernel_rfl)) hf
      exact dv_ hK hw (wn rfl) (r_load_cell ty2 hf rfl (o1.cl.at_ 0 _ rfl)) rfl
    · intro ρ w a hw hG hf hd K hK
      obtain ⟨o1, o2, o3, o4, o13, o14⟩ := hG
      exact dv_ hK hw (wn rfl) (r_move hf rfl) rfl
    · intro ρ w a hw hG hf hd K hK
      obtain ⟨o1, o2, o3, o4, o13, o14⟩ := hG
      obtain ⟨_, hf, rfl⟩ := got (hd 3 (by kernel_rfl)) hf
      exact dv_ hK hw (wn rfl) (r_indexAddr_arr Try.underlying91 sz39 hf rfl rfl hc27.1 hc27.2) rfl
    · intro ρ w a hw hG hf hd K hK
      obtain ⟨o1, o2, o3, o4, o13, o14⟩ := hG
      obtain ⟨_, hf, rfl⟩ := got (hd 4 (by kernel_rfl)) hf
      exact dv_ hK hw (wn rfl) (r_load_agg ty39 hf rfl (o14.cl.lens (Lens.vec zForm cForm a2 hc27.1 hc27.2)) (cForm.len _)) rfl
    · intro ρ w a hw hG hf hd K hK
      obtain ⟨o1, o2, o3, o4, o13, o14⟩ := hG
      exact dv_ hK hw (wn rfl) (r_load_agg ty39 hf rfl o2.cl (cForm.len _)) rfl
    · intro ρ w a hw hG hf hd K hK
      obtain ⟨o1, o2, o3, o4, o13, o14⟩ := hG
      exact dv_ hK hw (wn rfl) (r_fa fa28_0 hf rfl) rfl
    · intro ρ w a hw hG hf hd K hK
      obtain ⟨o1, o2, o3, o4, o13, o14⟩ := hG
      obtain ⟨_, hf, rfl⟩ := got (hd 7 (by kernel_rfl)) hf
      exact dv_ hK hw (wn rfl) (r_load_cell ty2 hf rfl (o1.cl.at_ 0 _ rfl)) rfl
    · intro ρ w a hw hG hf hd K hK
      obtain ⟨o1, o2, o3, o4, o13, o14⟩ := hG
      obtain ⟨_, hf, rfl⟩ := got (hd 8 (by kernel_rfl)) hf
      exact dv_ hK hw (wn rfl) (r_sub hf rfl rfl) rfl
    · intro ρ w a hw hG hf hd K hK
      obtain ⟨o1, o2, o3, o4, o13, o14⟩ := hG
      obtain ⟨_, hf, rfl⟩ := got (hd 2 (by kernel_rfl)) hf
      obtain ⟨_, hf, rfl⟩ := got (hd 5 (by kernel_rfl)) hf
      obtain ⟨_, hf, rfl⟩ := got (hd 6 (by kernel_rfl)) hf
      obtain ⟨_, hf, rfl⟩ := got (hd 9 (by kernel_rfl)) hf
      refine dc_ hK hw (wn rfl) (r_fn en77 hf rfl) (impl_sum_ok  hx29) fun v w' hΦ => ?_
      obtain ⟨hb, hΦ⟩ := hΦ
      obtain rfl := hΦ
      have hE := Ext.new (ρ := ρ) 17 hb
      exact ⟨_, hw.new 17 hb, hE, rfl⟩
  intro ρ w a hw hG hf hd
  obtain ⟨o1, o2, o3, o4, o13, o14⟩ := hG
  obtain ⟨_, hf, rfl⟩ := got (hd 0 (by decide)) hf
  obtain ⟨_, hf, rfl⟩ := got (hd 10 (by decide)) hf
  refine s_ hf (r_indexAddr_arr Try.underlying91 sz39 hf rfl rfl hc27.1 hc27.2) fun a hf => ?_
  refine sk_ hf (r_store_l (b := x28) hw o14 (by decide) (Lens.vec zForm cForm a2 hc27.1 hc27.2) (by simp only [Nat.zero_add] <;> rfl) ty39 hf rfl rfl rfl) fun a w hf hΦ => ?_
  obtain ⟨hw, hA, o14⟩ := hΦ
  replace o1 := o1.adv hA (by decide)
  replace o2 := o2.adv hA (by decide)
  replace o3 := o3.adv hA (by decide)
  replace o4 := o4.adv hA (by decide)
  replace o13 := o13.adv hA (by decide)
  refine c_nt <| c_seq <| c_region ?_
  refine s_ hf (r_fa fa28_4 hf rfl) fun a hf => ?_
  refine s_ hf (r_load_cell ty26 hf rfl (o1.cl.at_ 4 _ rfl)) fun a hf => ?_
  obtain ⟨x30, hx31, hF⟩ := of_bind hF
  refine st_fn 18 hw hf rfl rfl (by decide) (r_fn en76 hf rfl) (slices_Clone_76_ok (h0.now hw) hx31) fun a v w ρ hf hw hE hN hΦ => ?_
  obtain ⟨u32, rfl, hr33⟩ := hΦ
  replace o1 := o1.ext hE
  replace o2 := o2.ext hE
  replace o3 := o3.ext hE
  replace o4 := o4.ext hE
  replace o13 := o13.ext hE
  replace o14 := o14.ext hE
  have o18 := hN hr33
  refine s_ hf (r_assign hf rfl) fun a hf => ?_
  refine c_nt <| c_seq <| c_region ?_
  refine s_ hf (r_move hf rfl) fun a hf => ?_
  refine s_ hf (r_move hf rfl) fun a hf => ?_
  refine s_ hf (r_load_agg ty91 hf rfl o13.cl (cForms.len _)) fun a hf => ?_
  obtain ⟨x34, hx35, hF⟩ := of_bind hF
  refine st_fn 19 hw hf rfl rfl (by decide) (r_fn en88 hf rfl) (impl_productOf_ok  hx35) fun a v w ρ hf hw hE hN hΦ => ?_
  obtain rfl := hΦ
  replace o1 := o1.ext hE
  replace o2 := o2.ext hE
  replace o3 := o3.ext hE
  replace o4 := o4.ext hE
  replace o13 := o13.ext hE
  replace o14 := o14.ext hE
  replace o18 := o18.ext hE
  obtain ⟨hc36, hF⟩ := of_guard hF
  obtain ⟨ad37, hl37⟩ := Ow.ce (d := cProd) o18 zProd hc36.1 hc36.2
  refine s_ hf (r_idx Try.underlying26 sz78 hf rfl hl37.at_ rfl hc36.1 hc36.2) fun a hf => ?_
  refine sk_ hf (r_store_ec (b := x34) zProd hw (by decide) o18 hc36.1 hc36.2 (Lens.id _) hl37.at_ ty78 (by first | rfl | exact Nat.add_assoc _ _ _ | (simp only [Nat.add_assoc]; rfl)) hf rfl rfl rfl) fun a w hf hΦ => ?_
  obtain ⟨hw, hA, o18⟩ := hΦ
  replace o1 := o1.adv hA (by decide)
  replace o2 := o2.adv hA (by decide)
  replace o3 := o3.adv hA (by decide)
  replace o4 := o4.adv hA (by decide)
  replace o13 := o13.adv hA (by decide)
  replace o14 := o14.adv hA (by decide)
  refine c_nt <| c_seq ?_
  obtain ⟨x38, hx39, hF⟩ := of_bind hF
  obtain ⟨hc40, hF⟩ := of_guard hF
  replace hf : Fr 99 a [(4, .pointer (some ((⟨g1, 0, none⟩ : Addr).add 0))), (8, .pointer (some ((⟨g3, 0, none⟩ : Addr).add 0))), (11, .pointer (some ((⟨g14, 0, none⟩ : Addr).add 0))), (12, u32)] := hf.sub ⟨rfl, rfl, rfl, rfl, trivial⟩
  refine c_stage 6 [5] mixed (by kernel_rfl) (by kernel_rfl) (fun c ρ w => Va ρ w 1 g1 28 ([vI a0.p, vI a0.n, vI a0.m, vI a0.k, va0]) ∧ Va ρ w 3 g3 28 ([vI 0, vI 0, vI 0, vI 0, (.slice none 0 0)]) ∧ O78 ρ w w0 4 (.slice none 0 0) ([] : List Prod) ∧ Va ρ w 14 g14 91 (cForms.enc (vs x19 a2 x28)) ∧ (c ≤ 0 → O78 ρ w w0 18 u32 (x30.set a1.toNat x34))) ?_ [fun c ρ w v => .agg ([vI a0.p, vI a0.n, vI a0.m, vI a0.k, va0]).toArray = v, fun c ρ w v => u32 = v, fun c ρ w v => .agg (cForms.enc (vs x19 a2 x28)).toArray = v, fun c ρ w v => .agg (cProd.enc x38).toArray = v, fun c ρ w v => ∃ v22, v22 = v ∧ O78 ρ w w0 22 v22 ([x38]), fun c ρ w v => ∃ va41, va41 = v ∧ O78 ρ w w0 18 va41 ((x30.set a1.toNat x34) ++ [x38])] ?_ hw ⟨o1, o3, o4, o14, (fun _ => o18)⟩ hf ?_ ?_
  · intro c ρ w ρ' w' hE hG
    obtain ⟨o1, o3, o4, o14, o18x⟩ := hG
    exact ⟨o1.ext hE, o3.ext hE, o4.ext hE, o14.ext hE, (fun h => (o18x h).ext hE)⟩
  · exact LastsS.cons (fun _ _ _ _ _ _ _ h => h) <| LastsS.cons (fun _ _ _ _ _ _ _ h => h) <| LastsS.cons (fun _ _ _ _ _ _ _ h => h) <| LastsS.cons (fun _ _ _ _ _ _ _ h => h) <| LastsS.cons (fun c _ _ _ _ _ hE h => by obtain ⟨v22, h, o22⟩ := h; exact ⟨_, h, o22.ext hE⟩) <| LastsS.cons (fun c _ _ _ _ _ hE h => by obtain ⟨va41, h, o18⟩ := h; exact ⟨_, h, o18.ext hE⟩) <| LastsS.nil
  · refine StepsS.float rfl ?_ <| StepsS.float rfl ?_ <| StepsS.float rfl ?_ <| StepsS.float rfl ?_ <| StepsS.float rfl ?_ <| StepsS.main 0 rfl rfl ?_ <| StepsS.nil
    · intro c ρ w a hs hw hG hf hd K hK
      obtain ⟨o1, o3, o4, o14, o18x⟩ := hG
      exact dv_ hK hw (wn rfl) (r_load_agg ty28 hf rfl o1.cl rfl) rfl
    · intro c ρ w a hs hw hG hf hd K hK
      obtain ⟨o1, o3, o4, o14, o18x⟩ := hG
      have o18 := o18x (hs 0 (by decide) (by kernel_rfl))
      exact dv_ hK hw (wn rfl) (r_move hf rfl) rfl
    · intro c ρ w a hs hw hG hf hd K hK
      obtain ⟨o1, o3, o4, o14, o18x⟩ := hG
      have o18 := o18x (hs 0 (by decide) (by kernel_rfl))
      exact dv_ hK hw (wn rfl) (r_load_agg ty91 hf rfl o14.cl (cForms.len _)) rfl
    · intro c ρ w a hs hw hG hf hd K hK
      obtain ⟨o1, o3, o4, o14, o18x⟩ := hG
      have o18 := o18x (hs 0 (by decide) (by kernel_rfl))
      obtain ⟨_, ht2, rfl⟩ := hd 2 (by kernel_rfl) (by kernel_rfl)
      replace hf := hf.more ht2
      refine dc_ hK hw (wn rfl) (r_fn en88 hf rfl) (impl_productOf_ok  hx39) fun v w' hΦ => ?_
      obtain ⟨hb, hΦ⟩ := hΦ
      obtain rfl := hΦ
      have hE := Ext.new (ρ := ρ) 21 hb
      exact ⟨_, hw.new 21 hb, hE, rfl⟩
    · intro c ρ w a hs hw hG hf hd K hK
      obtain ⟨o1, o3, o4, o14, o18x⟩ := hG
      have o18 := o18x (hs 0 (by decide) (by kernel_rfl))
      obtain ⟨_, ht3, rfl⟩ := hd 3 (by kernel_rfl) (by kernel_rfl)
      replace hf := hf.more ht3
      refine dx_ hK hw (wn rfl) (r_lit (d := cProd) (xs := ([x38] : List Prod)) (vs := [.agg (cProd.enc x38).toArray]) 22 Try.underlying26 el78 (Nat.le_of_ble_eq_true rfl) (Nat.le_of_ble_eq_true rfl) hw hf rfl rfl rfl) fun v22 w' hΦ => ?_
      obtain ⟨ρ, hw, hE, o22⟩ := hΦ
      exact ⟨_, hw, hE, ex_ <| an_ rfl <| o22⟩
    · intro ρ w a S hw hG hf hS hdep hSi K hK
      obtain ⟨o1, o3, o4, o14, o18x⟩ := hG
      have hfL := hf
      have o18 := o18x (by decide)
      obtain ⟨_, ht1, rfl⟩ := hS 1 (by decide) (hdep 1 (by kernel_rfl)) (by kernel_rfl)
      replace hf := hf.more ht1
      obtain ⟨_, ht4, ⟨v22, rfl, o22⟩⟩ := hS 4 (by decide) (hdep 4 (by kernel_rfl)) (by kernel_rfl)
      replace hf := hf.more ht4
      refine m_val (ms := [5]) (Γ := fun c ρ w => Va ρ w 1 g1 28 ([vI a0.p, vI a0.n, vI a0.m, vI a0.k, va0]) ∧ Va ρ w 3 g3 28 ([vI 0, vI 0, vI 0, vI 0, (.slice none 0 0)]) ∧ O78 ρ w w0 4 (.slice none 0 0) ([] : List Prod) ∧ Va ρ w 14 g14 91 (cForms.enc (vs x19 a2 x28)) ∧ (c ≤ 0 → O78 ρ w w0 18 u32 (x30.set a1.toNat x34))) (Rl := [fun c ρ w v => .agg ([vI a0.p, vI a0.n, vI a0.m, vI a0.k, va0]).toArray = v, fun c ρ w v => u32 = v, fun c ρ w v => .agg (cForms.enc (vs x19 a2 x28)).toArray = v, fun c ρ w v => .agg (cProd.enc x38).toArray = v, fun c ρ w v => ∃ v22, v22 = v ∧ O78 ρ w w0 22 v22 ([x38]), fun c ρ w v => ∃ va41, va41 = v ∧ O78 ρ w w0 18 va41 ((x30.set a1.toNat x34) ++ [x38])]) hfL hS (by decide) rfl (by kernel_rfl) (by kernel_rfl) (wn rfl) rfl (r_append Try.underlying26 el78 hw (by decide) o18 o22.ro hc40 hf rfl rfl) (fun va41 w' hΦ => ?_) hK
      obtain ⟨ρ, hw, hA, o18⟩ := hΦ
      replace o1 := o1.adv hA (by decide)
      replace o3 := o3.adv hA (by decide)
      replace o4 := o4.adv hA (by decide)
      replace o14 := o14.adv hA (by decide)
      replace o22 := o22.adv hA (by decide)
      refine ⟨_, hw, ⟨o1, o3, o4, o14, (fun h => absurd h (by decide))⟩, ?_, ?_⟩
      · exact PassL.cons (fun h => h) <| PassL.cons (fun h => h) <| PassL.cons (fun h => h) <| PassL.cons (fun h => h) <| PassL.cons (fun h => by obtain ⟨_, ht, v22, h, o22⟩ := h; exact ⟨_, ht, _, h, o22.adv hA (by decide)⟩) <| PassL.here <| PassL.nil
      · exact ⟨_, rfl, o18⟩
  intro ρ w a hw hG hf hd
  obtain ⟨o1, o3, o4, o14, o18x⟩ := hG
  obtain ⟨_, hf, rfl⟩ := got (hd 0 (by decide) (by kernel_rfl)) hf
  obtain ⟨_, hf, ⟨va41, rfl, o18⟩⟩ := got (hd 5 (by decide) (by kernel_rfl)) hf
  obtain ⟨x42, hx43, hF⟩ := of_bind hF
  refine st_mfn hf rfl rfl (by decide) (r_fn en78 hf rfl) (impl_with_ok (a0 := a0) (by decide) hw h0 o18 hx43) fun a v w ρ hf hw hA hΦ => ?_
  obtain ⟨u44, rfl, o18⟩ := hΦ
  replace o1 := o1.adv hA (by decide)
  replace o3 := o3.adv hA (by decide)
  replace o4 := o4.adv hA (by decide)
  replace o14 := o14.adv hA (by decide)
  refine sk_ hf (r_store_w (cs' := [vI x42.p, vI x42.n, vI x42.m, vI x42.k, u44]) hw o3 (by decide) ty28 rfl rfl (one_sch o18.ro.one) hf rfl rfl rfl) fun a w hf hΦ => ?_
  obtain ⟨hw, hA, o3⟩ := hΦ
  replace o1 := o1.adv hA (by decide)
  replace o4 := o4.adv hA (by decide)
  replace o14 := o14.adv hA (by decide)
  replace o18 := o18.adv hA (by decide)
  refine s_ hf (r_assign hf rfl) fun a hf => ?_
  refine c_nt <| c_retc ?_
  obtain rfl := Option.some.inj hF
  refine c_ret hf (res_ct Try.results26 ty28 hf rfl o3.cl rfl rfl) ?_
  exact ⟨_, rfl, hw.below, ⟨_, rfl, o18.out⟩⟩
/-! f110 -/
noncomputable def spec_l03Flips_l11 (a0 : Sch) (s2 : Int) (s7 : Int) (s12 : Int) (s13 : List (List Int)) : Option (LR (Int × (List (List Int))) (List (List Int))) :=
  (if (decide (s12 < 3)) = true then (some (decide (s2 ≠ s7))) else (some false)).bind fun (s16 : Bool) => if s16 = true then (if 0 ≤ s2 ∧ s2 < (a0.ps.length : Int) then ((spec_l03Factor (gl zProd a0.ps s2) s12).bind fun x21 => if 0 ≤ s7 ∧ s7 < (a0.ps.length : Int) then ((spec_l03Factor (gl zProd a0.ps s7) s12).bind fun x25 => if (decide (x21 = x25)) = true then (if (s13.length + ([[s2, s7, s12]]).length) * 24 ≤ 140737488355328 then (some (.next (w64 (s12 + 1), (s13 ++ [[s2, s7, s12]])))) else none) else (some (.next (w64 (s12 + 1), s13)))) else none) else none) else (some (.stop (s12, s13)))
noncomputable def spec_l03Flips_l6 (a0 : Sch) (s2 : Int) (s7 : Int) (s8 : List (List Int)) : Option (LR (Int × (List (List Int))) (List (List Int))) :=
  if (decide (s7 < (a0.ps.length : Int))) = true then ((iter (fun s => spec_l03Flips_l11 a0 s2 s7 s.1 s.2) (0, s8)).bind fun o => match o with | .stop (s12, s13) => (some (.next (w64 (s7 + 1), s13))) | .ret r => some (.ret r) | .next _ => none) else (some (.stop (s7, s8)))
noncomputable def spec_l03Flips_l1 (a0 : Sch) (s2 : Int) (s3 : List (List Int)) : Option (LR (Int × (List (List Int))) (List (List Int))) :=
  if (decide (s2 < (a0.ps.length : Int))) = true then ((iter (fun s => spec_l03Flips_l6 a0 s2 s.1 s.2) (0, s3)).bind fun o => match o with | .stop (s7, s8) => (some (.next (w64 (s2 + 1), s8))) | .ret r => some (.ret r) | .next _ => none) else (some (.stop (s2, s3)))
noncomputable def spec_l03Flips (a0 : Sch) : Option (List (List Int)) :=
  (iter (fun s => spec_l03Flips_l1 a0 s.1 s.2) (0, ([] : List (List Int)))).bind fun o => match o with | .stop (s2, s3) => (some (s3)) | .ret r => some r | .next _ => none
theorem spec_l03Flips_ok {w0 : World} {a0 : Sch} {va0 : Value} (h0 : Ro (kf cProd) w0 va0 a0.ps) {r : List (List Int)} (hF : spec_l03Flips a0 = some r) :
    Calls Try.prog 110 [.agg ([vI a0.p, vI a0.n, vI a0.m, vI a0.k, va0]).toArray].toArray w0 fun e w => ∃ v, e = .returned v ∧ Below w0.heap.size w0 w ∧ ∃ u0, u0 = v ∧ Fresh (Kd.slice 2 (kf fI64)) 61 w0 w u0 r := by
  refine calls_of (k := 54) Try.func110 rfl rfl (Nat.le_of_ble_eq_true rfl) fun a hf => ?_
  replace hf : Fr 54 a [(0, .agg ([vI a0.p, vI a0.n, vI a0.m, vI a0.k, va0]).toArray)] := hf
  refine c_start fun w ρ hw => ?_
  unfold spec_l03Flips at hF
  refine c_seq <| c_region ?_
  refine sx_ hf (r_box (cs := [vI a0.p, vI a0.n, vI a0.m, vI a0.k, va0]) 1 hw hf rfl rfl) fun a v w hf hΦ => ?_
  obtain ⟨g1, ρ, rfl, hw, hE, o1⟩ := hΦ
  have o2 : Ow (Kd.slice 2 (kf fI64)) 61 ρ w w0.heap.size 2 (.slice none 0 0) [] := Ow.nil _ _ _ _ _ _
  refine s_ hf (r_assign hf rfl) fun a hf => ?_
  refine c_nt <| c_seq <| c_region ?_
  refine sx_ hf (r_lit_none (d := (Kd.slice 2 (kf fI64))) 3 Try.underlying44 el61 hw) fun a v3 w hf hΦ => ?_
  obtain ⟨ρ, hw, hE, o3⟩ := hΦ
  replace o1 := o1.ext hE
  replace o2 := o2.ext hE
  refine s_ hf (r_assign hf rfl) fun a hf => ?_
  refine c_nt <| c_seq <| c_seq <| c_region ?_
  refine s_ hf (r_assign hf rfl) fun a hf => ?_
  refine c_nt ?_
  obtain ⟨ol1, ho1, hG1⟩ := of_bind hF
  clear hF
  refine c_block (c_loop (id := 0) (fun s => spec_l03Flips_l1 a0 s.1 s.2) (fun (s : Int × (List (List Int))) a w => match s with | (s2, s3) => ∃ ρ v4, Wd w0 ρ w ∧ Fr 54 a [(1, .pointer (some ((⟨g1, 0, none⟩ : Addr).add 0))), (3, v4), (4, vI s2)] ∧ Va ρ w 1 g1 28 ([vI a0.p, vI a0.n, vI a0.m, vI a0.k, va0]) ∧ O61 ρ w w0 3 v4 s3) (fun (s : Int × (List (List Int))) a w => match s with | (s2, s3) => ∃ ρ v4, Wd w0 ρ w ∧ Fr 54 a [(3, v4)] ∧ O61 ρ w w0 3 v4 s3) ho1 ⟨_, _, hw, hf.sub ⟨rfl, rfl, rfl, trivial⟩, o1, o3⟩ ?_ ?_)
  · rintro ⟨s2, s3⟩ lr a w ⟨ρ, v4, hw, hf, o1, o3⟩ hF
    replace hF : spec_l03Flips_l1 a0 s2 s3 = some lr := hF
    unfold spec_l03Flips_l1 at hF
    refine c_seq <| c_seq <| c_region ?_
    refine s_ hf (r_move hf rfl) fun a hf => ?_
    refine s_ hf (r_fa fa28_4 hf rfl) fun a hf => ?_
    refine s_ hf (r_load_cell ty26 hf rfl (o1.cl.at_ 4 _ rfl)) fun a hf => ?_
    refine s_ hf (r_len Try.underlying26 (h0.now hw) hf rfl) fun a hf => ?_
    refine s_ hf (r_lss hf rfl rfl) fun a hf => ?_
    refine c_nt ?_
    rcases of_ite hF with ⟨hb5, hF⟩ | ⟨hb5, hF⟩
    rotate_left
    · refine c_iff hf rfl hb5 <| c_exit <| x_then ?_
      obtain rfl := Option.some.inj hF
      exact Rnd.stops ⟨_, _, hw, hf.sub ⟨rfl, trivial⟩, o3⟩
    refine c_ift hf rfl hb5 <| c_skip <| n_then <| c_seq <| c_block <| c_seq <| c_region ?_
    refine s_ hf (r_assign hf rfl) fun a hf => ?_
    refine c_nt ?_
    obtain ⟨ol6, ho6, hG6⟩ := of_bind hF
    clear hF
    refine c_block (c_loop (id := 2) (fun s => spec_l03Flips_l6 a0 s2 s.1 s.2) (fun (s : Int × (List (List Int))) a w => match s with | (s7, s8) => ∃ ρ v9, Wd w0 ρ w ∧ Fr 54 a [(1, .pointer (some ((⟨g1, 0, none⟩ : Addr).add 0))), (3, v9), (4, vI s2), (5, vI s7)] ∧ Va ρ w 1 g1 28 ([vI a0.p, vI a0.n, vI a0.m, vI a0.k, va0]) ∧ O61 ρ w w0 3 v9 s8) (fun (s : Int × (List (List Int))) a w => match s with | (s7, s8) => ∃ ρ v9, Wd w0 ρ w ∧ Fr 54 a [(1, .pointer (some ((⟨g1, 0, none⟩ : Addr).add 0))), (3, v9), (4, vI s2)] ∧ Va ρ w 1 g1 28 ([vI a0.p, vI a0.n, vI a0.m, vI a0.k, va0]) ∧ O61 ρ w w0 3 v9 s8) ho6 ⟨_, _, hw, hf.sub ⟨rfl, rfl, rfl, rfl, trivial⟩, o1, o3⟩ ?_ ?_)
    · rintro ⟨s7, s8⟩ lr a w ⟨ρ, v9, hw, hf, o1, o3⟩ hF
      replace hF : spec_l03Flips_l6 a0 s2 s7 s8 = some lr := hF
      unfold spec_l03Flips_l6 at hF
      refine c_seq <| c_seq <| c_region ?_
      refine s_ hf (r_move hf rfl) fun a hf => ?_
      refine s_ hf (r_fa fa28_4 hf rfl) fun a hf => ?_
      refine s_ hf (r_load_cell ty26 hf rfl (o1.cl.at_ 4 _ rfl)) fun a hf => ?_
      refine s_ hf (r_len Try.underlying26 (h0.now hw) hf rfl) fun a hf => ?_
      refine s_ hf (r_lss hf rfl rfl) fun a hf => ?_
      refine c_nt ?_
      rcases of_ite hF with ⟨hb10, hF⟩ | ⟨hb10, hF⟩
      rotate_left
      · refine c_iff hf rfl hb10 <| c_exit <| x_then ?_
        obtain rfl := Option.some.inj hF
        exact Rnd.stops ⟨_, _, hw, hf.sub ⟨rfl, rfl, rfl, trivial⟩, o1, o3⟩
      refine c_ift hf rfl hb10 <| c_skip <| n_then <| c_seq <| c_block <| c_seq <| c_region ?_
      refine s_ hf (r_assign hf rfl) fun a hf => ?_
      refine c_nt ?_
      obtain ⟨ol11, ho11, hG11⟩ := of_bind hF
      clear hF
      refine c_block (c_loop (id := 4) (fun s => spec_l03Flips_l11 a0 s2 s7 s.1 s.2) (fun (s : Int × (List (List Int))) a w => match s with | (s12, s13) => ∃ ρ v14, Wd w0 ρ w ∧ Fr 54 a [(1, .pointer (some ((⟨g1, 0, none⟩ : Addr).add 0))), (3, v14), (4, vI s2), (5, vI s7), (6, vI s12)] ∧ Va ρ w 1 g1 28 ([vI a0.p, vI a0.n, vI a0.m, vI a0.k, va0]) ∧ O61 ρ w w0 3 v14 s13) (fun (s : Int × (List (List Int))) a w => match s with | (s12, s13) => ∃ ρ v14, Wd w0 ρ w ∧ Fr 54 a [(1, .pointer (some ((⟨g1, 0, none⟩ : Addr).add 0))), (3, v14), (4, vI s2), (5, vI s7)] ∧ Va ρ w 1 g1 28 ([vI a0.p, vI a0.n, vI a0.m, vI a0.k, va0]) ∧ O61 ρ w w0 3 v14 s13) ho11 ⟨_, _, hw, hf.sub ⟨rfl, rfl, rfl, rfl, rfl, trivial⟩, o1, o3⟩ ?_ ?_)
      · rintro ⟨s12, s13⟩ lr a w ⟨ρ, v14, hw, hf, o1, o3⟩ hF
        replace hF : spec_l03Flips_l11 a0 s2 s7 s12 s13 = some lr := hF
        unfold spec_l03Flips_l11 at hF
        refine c_seq <| c_seq ?_
        obtain ⟨s16, hT15, hG15⟩ := of_bind hF
        clear hF
        refine c_meet (fun (s16 : Bool) a w => ∃ ρ, Wd w0 ρ w ∧ Fr 54 a [(1, .pointer (some ((⟨g1, 0, none⟩ : Addr).add 0))), (3, v14), (4, vI s2), (5, vI s7), (6, vI s12), (28, .bool s16)] ∧ Va ρ w 1 g1 28 ([vI a0.p, vI a0.n, vI a0.m, vI a0.k, va0]) ∧ O61 ρ w w0 3 v14 s13) s16 ?_ ?_
        · have hF := hT15
          refine c_region ?_
          refine s_ hf (r_move hf rfl) fun a hf => ?_
          refine s_ hf (r_lss hf rfl rfl) fun a hf => ?_
          refine s_ hf (r_move hf rfl) fun a hf => ?_
          rcases of_ite hF with ⟨hb17, hF⟩ | ⟨hb17, hF⟩
          rotate_left
          · refine st_no (b := false) hf rfl rfl rfl hb17 rfl (by decide) fun a hf => ?_
            refine st_no (b := false) hf rfl rfl rfl hb17 rfl (by decide) fun a hf => ?_
            refine st_no (b := false) hf rfl rfl rfl hb17 rfl (by decide) fun a hf => ?_
            refine s_ hf (r_pick (b := false) hf rfl hb17 rfl) fun a hf => ?_
            refine c_nil ⟨rfl, ?_⟩
            obtain rfl := Option.some.inj hF
            exact ⟨_, hw, hf.sub ⟨rfl, rfl, rfl, rfl, rfl, rfl, trivial⟩, o1, o3⟩
          refine st_g (b := true) hf rfl rfl rfl hb17 rfl (by decide) (r_move hf rfl) fun a hf => ?_
          refine st_g (b := true) hf rfl rfl rfl hb17 rfl (by decide) (r_move hf rfl) fun a hf => ?_
          refine st_g (b := true) hf rfl rfl rfl hb17 rfl (by decide) (r_neq hf rfl rfl) fun a hf => ?_
          refine s_ hf (r_pick (b := true) hf rfl hb17 rfl) fun a hf => ?_
          refine c_nil ⟨rfl, ?_⟩
          obtain rfl := Option.some.inj hF
          exact ⟨_, hw, hf.sub ⟨rfl, rfl, rfl, rfl, rfl, rfl, trivial⟩, o1, o3⟩
        rintro a w ⟨ρ, hw, hf, o1, o3⟩
        have hF := hG15
        refine n_then ?_
        rcases of_ite hF with ⟨hb18, hF⟩ | ⟨hb18, hF⟩
        rotate_left
        · refine c_iff hf rfl hb18 <| c_exit <| x_then ?_
          obtain rfl := Option.some.inj hF
          exact Rnd.stops ⟨_, _, hw, hf.sub ⟨rfl, rfl, rfl, rfl, trivial⟩, o1, o3⟩
        refine c_ift hf rfl hb18 <| c_skip <| n_then <| c_seq <| c_block <| c_seq ?_
        obtain ⟨hc19, hF⟩ := of_guard hF
        obtain ⟨ad20, c20, he20, hl20⟩ := Ro.el cProd h0 zProd hc19.1 hc19.2
        obtain ⟨x21, hx22, hF⟩ := of_bind hF
        obtain ⟨hc23, hF⟩ := of_guard hF
        obtain ⟨ad24, c24, he24, hl24⟩ := Ro.el cProd h0 zProd hc23.1 hc23.2
        replace hf : Fr 54 a [(1, .pointer (some ((⟨g1, 0, none⟩ : Addr).add 0))), (3, v14), (4, vI s2), (5, vI s7), (6, vI s12)] := hf.sub ⟨rfl, rfl, rfl, rfl, rfl, trivial⟩
        refine c_drawL (h := 13) mixed (by kernel_rfl) (by kernel_rfl) (fun ρ w => Va ρ w 1 g1 28 ([vI a0.p, vI a0.n, vI a0.m, vI a0.k, va0]) ∧ O61 ρ w w0 3 v14 s13) ?_ [fun ρ w v => .pointer (some ((⟨g1, 0, none⟩ : Addr).add (0 + 4))) = v, fun ρ w v => va0 = v, fun ρ w v => vI s2 = v, fun ρ w v => .pointer (some (ad20.add (s2.toNat * 27))) = v, fun ρ w v => .agg (cProd.enc (gl zProd a0.ps s2)).toArray = v, fun ρ w v => vI s12 = v, fun ρ w v => .agg (cForm.enc x21).toArray = v, fun ρ w v => .pointer (some ((⟨g1, 0, none⟩ : Addr).add (0 + 4))) = v, fun ρ w v => va0 = v, fun ρ w v => vI s7 = v, fun ρ w v => .pointer (some (ad24.add (s7.toNat * 27))) = v, fun ρ w v => .agg (cProd.enc (gl zProd a0.ps s7)).toArray = v, fun ρ w v => vI s12 = v] ?_ hw ⟨o1, o3⟩ hf ?_ ?_
        · intro ρ w ρ' w' hE hG
          obtain ⟨o1, o3⟩ := hG
          exact ⟨o1.ext hE, o3.ext hE⟩
        · exact LastsL.cons (fun _ _ _ _ _ _ h => h) <| LastsL.cons (fun _ _ _ _ _ _ h => h) <| LastsL.cons (fun _ _ _ _ _ _ h => h) <| LastsL.cons (fun _ _ _ _ _ _ h => h) <| LastsL.cons (fun _ _ _ _ _ _ h => h) <| LastsL.cons (fun _ _ _ _ _ _ h => h) <| LastsL.cons (fun _ _ _ _ _ _ h => h) <| LastsL.cons (fun _ _ _ _ _ _ h => h) <| LastsL.cons (fun _ _ _ _ _ _ h => h) <| LastsL.cons (fun _ _ _ _ _ _ h => h) <| LastsL.cons (fun _ _ _ _ _ _ h => h) <| LastsL.cons (fun _ _ _ _ _ _ h => h) <| LastsL.cons (fun _ _ _ _ _ _ h => h) <| LastsL.nil
        · refine StepsB.cons ?_ <| StepsB.cons ?_ <| StepsB.cons ?_ <| StepsB.cons ?_ <| StepsB.cons ?_ <| StepsB.cons ?_ <| StepsB.cons ?_ <| StepsB.cons ?_ <| StepsB.cons ?_ <| StepsB.cons ?_ <| StepsB.cons ?_ <| StepsB.cons ?_ <| StepsB.cons ?_ <| StepsB.nil
          · intro ρ w a hw hG hf hd K hK
            obtain ⟨o1, o3⟩ := hG
            exact dv_ hK hw (wn rfl) (r_fa fa28_4 hf rfl) rfl
          · intro ρ w a hw hG hf hd K hK
            obtain ⟨o1, o3⟩ := hG
            obtain ⟨_, hf, rfl⟩ := got (hd 0 (by kernel_rfl)) hf
            exact dv_ hK hw (wn rfl) (r_load_cell ty26 hf rfl (o1.cl.at_ 4 _ rfl)) rfl
          · intro ρ w a hw hG hf hd K hK
            obtain ⟨o1, o3⟩ := hG
            exact dv_ hK hw (wn rfl) (r_move hf rfl) rfl
          · intro ρ w a hw hG hf hd K hK
            obtain ⟨o1, o3⟩ := hG
            obtain ⟨_, hf, rfl⟩ := got (hd 1 (by kernel_rfl)) hf
            obtain ⟨_, hf, rfl⟩ := got (hd 2 (by kernel_rfl)) hf
            exact dv_ hK hw (wn rfl) (r_idx Try.underlying26 sz78 hf rfl ⟨_, he20⟩ rfl hc19.1 hc19.2) rfl
          · intro ρ w a hw hG hf hd K hK
            obtain ⟨o1, o3⟩ := hG
            obtain ⟨_, hf, rfl⟩ := got (hd 3 (by kernel_rfl)) hf
            exact dv_ hK hw (wn rfl) (r_load_agg ty78 hf rfl (hl20.below hw.below) (cProd.len _)) rfl
          · intro ρ w a hw hG hf hd K hK
            obtain ⟨o1, o3⟩ := hG
            exact dv_ hK hw (wn rfl) (r_move hf rfl) rfl
          · intro ρ w a hw hG hf hd K hK
            obtain ⟨o1, o3⟩ := hG
            obtain ⟨_, hf, rfl⟩ := got (hd 4 (by kernel_rfl)) hf
            obtain ⟨_, hf, rfl⟩ := got (hd 5 (by kernel_rfl)) hf
            refine dc_ hK hw (wn rfl) (r_fn en84 hf rfl) (spec_l03Factor_ok  hx22) fun v w' hΦ => ?_
            obtain ⟨hb, hΦ⟩ := hΦ
            obtain rfl := hΦ
            have hE := Ext.new (ρ := ρ) 4 hb
            exact ⟨_, hw.new 4 hb, hE, rfl⟩
          · intro ρ w a hw hG hf hd K hK
            obtain ⟨o1, o3⟩ := hG
            exact dv_ hK hw (wn rfl) (r_fa fa28_4 hf rfl) rfl
          · intro ρ w a hw hG hf hd K hK
            obtain ⟨o1, o3⟩ := hG
            obtain ⟨_, hf, rfl⟩ := got (hd 7 (by kernel_rfl)) hf
            exact dv_ hK hw (wn rfl) (r_load_cell ty26 hf rfl (o1.cl.at_ 4 _ rfl)) rfl
          · intro ρ w a hw hG hf hd K hK
            obtain ⟨o1, o3⟩ := hG
            exact dv_ hK hw (wn rfl) (r_move hf rfl) rfl
          · intro ρ w a hw hG hf hd K hK
            obtain ⟨o1, o3⟩ := hG
            obtain ⟨_, hf, rfl⟩ := got (hd 8 (by kernel_rfl)) hf
            obtain ⟨_, hf, rfl⟩ := got (hd 9 (by kernel_rfl)) hf
            exact dv_ hK hw (wn rfl) (r_idx Try.underlying26 sz78 hf rfl ⟨_, he24⟩ rfl hc23.1 hc23.2) rfl
          · intro ρ w a hw hG hf hd K hK
            obtain ⟨o1, o3⟩ := hG
            obtain ⟨_, hf, rfl⟩ := got (hd 10 (by kernel_rfl)) hf
            exact dv_ hK hw (wn rfl) (r_load_agg ty78 hf rfl (hl24.below hw.below) (cProd.len _)) rfl
          · intro ρ w a hw hG hf hd K hK
            obtain ⟨o1, o3⟩ := hG
            exact dv_ hK hw (wn rfl) (r_move hf rfl) rfl
        intro ρ w a hw hG hf hd
        obtain ⟨o1, o3⟩ := hG
        obtain ⟨_, hf, rfl⟩ := got (hd 6 (by decide)) hf
        obtain ⟨_, hf, rfl⟩ := got (hd 11 (by decide)) hf
        obtain ⟨_, hf, rfl⟩ := got (hd 12 (by decide)) hf
        obtain ⟨x25, hx26, hF⟩ := of_bind hF
        refine st_fn 5 hw hf rfl rfl (by decide) (r_fn en84 hf rfl) (spec_l03Factor_ok  hx26) fun a v w ρ hf hw hE hN hΦ => ?_
        obtain rfl := hΦ
        replace o1 := o1.ext hE
        replace o3 := o3.ext hE
        refine s_ hf (r_eq (d := cForm) eq39 ⟨_, rfl⟩ gt39 hf rfl rfl) fun a hf => ?_
        refine c_nt ?_
        rcases of_ite hF with ⟨hb27, hF⟩ | ⟨hb27, hF⟩
        rotate_left
        · refine c_iff hf rfl hb27 <| c_skip <| n_block <| n_then <| c_region ?_
          refine s_ hf (r_move hf rfl) fun a hf => ?_
          refine s_ hf (r_add hf rfl rfl) fun a hf => ?_
          refine s_ hf (r_assign hf rfl) fun a hf => ?_
          refine c_nil ?_
          obtain rfl := Option.some.inj hF
          exact Rnd.goes ⟨_, _, hw, hf.sub ⟨rfl, rfl, rfl, rfl, rfl, trivial⟩, o1, o3⟩
        refine c_ift hf rfl hb27 <| c_region ?_
        refine s_ hf (r_move hf rfl) fun a hf => ?_
        refine s_ hf (r_move hf rfl) fun a hf => ?_
        refine s_ hf (r_move hf rfl) fun a hf => ?_
        refine s_ hf (r_move hf rfl) fun a hf => ?_
        refine sx_ hf (r_lit (d := fI64) (xs := ([s2, s7, s12] : List Int)) (vs := [vI s2, vI s7, vI s12]) 6 Try.underlying61 el2 (Nat.le_of_ble_eq_true rfl) (Nat.le_of_ble_eq_true rfl) hw hf rfl rfl rfl) fun a v6 w hf hΦ => ?_
        obtain ⟨ρ, hw, hE, o6⟩ := hΦ
        replace o1 := o1.ext hE
        replace o3 := o3.ext hE
        refine sx_ hf (r_lit_row 7 Try.underlying44 el61 hw (by decide) hf rfl o6) fun a v7 w hf hΦ => ?_
        obtain ⟨ρ, hw, hT, hB, o7⟩ := hΦ
        replace o1 := o1.tr (hT 1 (by decide))
        replace o3 := o3.tr (hT 3 (by decide))
        obtain ⟨hc28, hF⟩ := of_guard hF
        refine sx_ hf (r_append_own Try.underlying44 el61 hw (by decide) (by decide) (by decide) o3 o7 hc28 hf rfl rfl) fun a va29 w hf hΦ => ?_
        obtain ⟨ρ, hw, hT, o3⟩ := hΦ
        replace o1 := o1.tr (hT 1 (by decide) (by decide))
        refine s_ hf (r_assign hf rfl) fun a hf => ?_
        refine c_nil <| n_block <| n_then <| c_region ?_
        refine s_ hf (r_move hf rfl) fun a hf => ?_
        refine s_ hf (r_add hf rfl rfl) fun a hf => ?_
        refine s_ hf (r_assign hf rfl) fun a hf => ?_
        refine c_nil ?_
        obtain rfl := Option.some.inj hF
        exact Rnd.goes ⟨_, _, hw, hf.sub ⟨rfl, rfl, rfl, rfl, rfl, trivial⟩, o1, o3⟩
      rintro ⟨s12, s13⟩ a w hs ⟨ρ, v14, hw, hf, o1, o3⟩
      subst hs
      have hF := hG11
      dsimp only at hF
      refine x_block <| n_block <| n_then <| c_region ?_
      refine s_ hf (r_move hf rfl) fun a hf => ?_
      refine s_ hf (r_add hf rfl rfl) fun a hf => ?_
      refine s_ hf (r_assign hf rfl) fun a hf => ?_
      refine c_nil ?_
      obtain rfl := Option.some.inj hF
      exact Rnd.goes ⟨_, _, hw, hf.sub ⟨rfl, rfl, rfl, rfl, trivial⟩, o1, o3⟩
    rintro ⟨s7, s8⟩ a w hs ⟨ρ, v9, hw, hf, o1, o3⟩
    subst hs
    have hF := hG6
    dsimp only at hF
    refine x_block <| n_block <| n_then <| c_region ?_
    refine s_ hf (r_move hf rfl) fun a hf => ?_
    refine s_ hf (r_add hf rfl rfl) fun a hf => ?_
    refine s_ hf (r_assign hf rfl) fun a hf => ?_
    refine c_nil ?_
    obtain rfl := Option.some.inj hF
    exact Rnd.goes ⟨_, _, hw, hf.sub ⟨rfl, rfl, rfl, trivial⟩, o1, o3⟩
  rintro ⟨s2, s3⟩ a w hs ⟨ρ, v4, hw, hf, o3⟩
  subst hs
  have hF := hG1
  dsimp only at hF
  refine x_block <| n_then <| c_seq <| c_region ?_
  refine s_ hf (r_move hf rfl) fun a hf => ?_
  refine s_ hf (r_assign hf rfl) fun a hf => ?_
  refine c_nt <| c_retc ?_
  obtain rfl := Option.some.inj hF
  refine c_ret hf (res_tmp Try.results110 hf rfl) ?_
  exact ⟨_, rfl, hw.below, ⟨_, rfl, o3.out⟩⟩
/-! f111 -/
noncomputable def impl_flips_l15 (a0 : Sch) (s2 : Int) (s9 : Int) (s16 : Int) (s17 : List (List Int)) : Option (LR (Int × (List (List Int))) (List (List Int))) :=
  if (decide (s16 < 3)) = true then ((if (decide (s2 ≠ s9)) = true then ((impl_factors (gl zProd a0.ps s2)).bind fun x23 => if 0 ≤ s16 ∧ s16 < 3 then ((impl_factors (gl zProd a0.ps s9)).bind fun x26 => some (decide ((vg zForm x23 s16) = (vg zForm x26 s16)))) else none) else (some false)).bind fun (s21 : Bool) => if s21 = true then (if (s17.length + ([[s2, s9, s16]]).length) * 24 ≤ 140737488355328 then (some (.next (w64 (s16 + 1), (s17 ++ [[s2, s9, s16]])))) else none) else (some (.next (w64 (s16 + 1), s17)))) else (some (.stop (s16, s17)))
noncomputable def impl_flips_l8 (a0 : Sch) (s2 : Int) (s9 : Int) (s10 : List (List Int)) : Option (LR (Int × (List (List Int))) (List (List Int))) :=
  if (decide (s9 < (a0.ps.length : Int))) = true then (if 0 ≤ s9 ∧ s9 < (a0.ps.length : Int) then ((iter (fun s => impl_flips_l15 a0 s2 s9 s.1 s.2) (0, s10)).bind fun o => match o with | .stop (s16, s17) => (some (.next (w64 (s9 + 1), s17))) | .ret r => some (.ret r) | .next _ => none) else none) else (some (.stop (s9, s10)))
noncomputable def impl_flips_l1 (a0 : Sch) (s2 : Int) (s3 : List (List Int)) : Option (LR (Int × (List (List Int))) (List (List Int))) :=
  if (decide (s2 < (a0.ps.length : Int))) = true then (if 0 ≤ s2 ∧ s2 < (a0.ps.length : Int) then ((iter (fun s => impl_flips_l8 a0 s2 s.1 s.2) (0, s3)).bind fun o => match o with | .stop (s9, s10) => (some (.next (w64 (s2 + 1), s10))) | .ret r => some (.ret r) | .next _ => none) else none) else (some (.stop (s2, s3)))
noncomputable def impl_flips (a0 : Sch) : Option (List (List Int)) :=
  (iter (fun s => impl_flips_l1 a0 s.1 s.2) (0, ([] : List (List Int)))).bind fun o => match o with | .stop (s2, s3) => (some (s3)) | .ret r => some r | .next _ => none
theorem impl_flips_ok {w0 : World} {a0 : Sch} {va0 : Value} (h0 : Ro (kf cProd) w0 va0 a0.ps) {r : List (List Int)} (hF : impl_flips a0 = some r) :
    Calls Try.prog 111 [.agg ([vI a0.p, vI a0.n, vI a0.m, vI a0.k, va0]).toArray].toArray w0 fun e w => ∃ v, e = .returned v ∧ Below w0.heap.size w0 w ∧ ∃ u0, u0 = v ∧ Fresh (Kd.slice 2 (kf fI64)) 61 w0 w u0 r := by
  refine calls_of (k := 54) Try.func111 rfl rfl (Nat.le_of_ble_eq_true rfl) fun a hf => ?_
  replace hf : Fr 54 a [(0, .agg ([vI a0.p, vI a0.n, vI a0.m, vI a0.k, va0]).toArray)] := hf
  refine c_start fun w ρ hw => ?_
  unfold impl_flips at hF
  refine c_seq <| c_region ?_
  refine sx_ hf (r_box (cs := [vI a0.p, vI a0.n, vI a0.m, vI a0.k, va0]) 1 hw hf rfl rfl) fun a v w hf hΦ => ?_
  obtain ⟨g1, ρ, rfl, hw, hE, o1⟩ := hΦ
  have o2 : Ow (Kd.slice 2 (kf fI64)) 61 ρ w w0.heap.size 2 (.slice none 0 0) [] := Ow.nil _ _ _ _ _ _
  refine s_ hf (r_assign hf rfl) fun a hf => ?_
  refine c_nt <| c_seq <| c_region ?_
  refine sx_ hf (r_lit_none (d := (Kd.slice 2 (kf fI64))) 3 Try.underlying44 el61 hw) fun a v3 w hf hΦ => ?_
  obtain ⟨ρ, hw, hE, o3⟩ := hΦ
  replace o1 := o1.ext hE
  replace o2 := o2.ext hE
  refine s_ hf (r_assign hf rfl) fun a hf => ?_
  refine c_nt <| c_seq <| c_seq <| c_region ?_
  refine s_ hf (r_fa fa28_4 hf rfl) fun a hf => ?_
  refine s_ hf (r_load_cell ty26 hf rfl (o1.cl.at_ 4 _ rfl)) fun a hf => ?_
  refine s_ hf (r_len Try.underlying26 (h0.now hw) hf rfl) fun a hf => ?_
  refine s_ hf (r_move hf rfl) fun a hf => ?_
  refine c_nt ?_
  obtain ⟨ol1, ho1, hG1⟩ := of_bind hF
  clear hF
  refine c_block (c_loop (id := 0) (fun s => impl_flips_l1 a0 s.1 s.2) (fun (s : Int × (List (List Int))) a w => match s with | (s2, s3) => ∃ ρ v4, Wd w0 ρ w ∧ Fr 54 a [(1, .pointer (some ((⟨g1, 0, none⟩ : Addr).add 0))), (3, v4), (11, va0), (12, vI (a0.ps.length : Int)), (13, vI s2)] ∧ Va ρ w 1 g1 28 ([vI a0.p, vI a0.n, vI a0.m, vI a0.k, va0]) ∧ O61 ρ w w0 3 v4 s3) (fun (s : Int × (List (List Int))) a w => match s with | (s2, s3) => ∃ ρ v4, Wd w0 ρ w ∧ Fr 54 a [(3, v4)] ∧ O61 ρ w w0 3 v4 s3) ho1 ⟨_, _, hw, hf.sub ⟨rfl, rfl, rfl, rfl, rfl, trivial⟩, o1, o3⟩ ?_ ?_)
  · rintro ⟨s2, s3⟩ lr a w ⟨ρ, v4, hw, hf, o1, o3⟩ hF
    replace hF : impl_flips_l1 a0 s2 s3 = some lr := hF
    unfold impl_flips_l1 at hF
    refine c_seq <| c_region ?_
    refine s_ hf (r_lss hf rfl rfl) fun a hf => ?_
    refine c_nt <| c_seq ?_
    rcases of_ite hF with ⟨hb5, hF⟩ | ⟨hb5, hF⟩
    rotate_left
    · refine c_iff hf rfl hb5 <| c_exit <| x_then ?_
      obtain rfl := Option.some.inj hF
      exact Rnd.stops ⟨_, _, hw, hf.sub ⟨rfl, trivial⟩, o3⟩
    refine c_ift hf rfl hb5 <| c_skip <| n_then <| c_seq <| c_block <| c_seq <| c_region ?_
    refine s_ hf (r_move hf rfl) fun a hf => ?_
    obtain ⟨hc6, hF⟩ := of_guard hF
    obtain ⟨ad7, c7, he7, hl7⟩ := Ro.el cProd h0 zProd hc6.1 hc6.2
    refine s_ hf (r_idx Try.underlying26 sz78 hf rfl ⟨_, he7⟩ rfl hc6.1 hc6.2) fun a hf => ?_
    refine s_ hf (r_load_agg ty78 hf rfl (hl7.below hw.below) (cProd.len _)) fun a hf => ?_
    refine sx_ hf (r_alloc (cs := cProd.enc zProd) 4 ze78 rfl hw) fun a v w hf hΦ => ?_
    obtain ⟨g4, ρ, rfl, hw, hE, o4⟩ := hΦ
    replace o1 := o1.ext hE
    replace o3 := o3.ext hE
    refine s_ hf (r_assign hf rfl) fun a hf => ?_
    refine sk_ hf (r_store_w (cs' := cProd.enc (gl zProd a0.ps s2)) hw o4 (by decide) ty78 (cProd.len _) (cProd.len _) (cProd.one _) hf rfl rfl rfl) fun a w hf hΦ => ?_
    obtain ⟨hw, hA, o4⟩ := hΦ
    replace o1 := o1.adv hA (by decide)
    replace o3 := o3.adv hA (by decide)
    refine c_nt <| c_seq <| c_region ?_
    refine s_ hf (r_fa fa28_4 hf rfl) fun a hf => ?_
    refine s_ hf (r_load_cell ty26 hf rfl (o1.cl.at_ 4 _ rfl)) fun a hf => ?_
    refine s_ hf (r_len Try.underlying26 (h0.now hw) hf rfl) fun a hf => ?_
    refine s_ hf (r_move hf rfl) fun a hf => ?_
    refine c_nt ?_
    obtain ⟨ol8, ho8, hG8⟩ := of_bind hF
    clear hF
    refine c_block (c_loop (id := 2) (fun s => impl_flips_l8 a0 s2 s.1 s.2) (fun (s : Int × (List (List Int))) a w => match s with | (s9, s10) => ∃ ρ v11, Wd w0 ρ w ∧ Fr 54 a [(1, .pointer (some ((⟨g1, 0, none⟩ : Addr).add 0))), (3, v11), (4, vI s2), (5, .pointer (some ((⟨g4, 0, none⟩ : Addr).add 0))), (11, va0), (12, vI (a0.ps.length : Int)), (13, vI s2), (19, va0), (20, vI (a0.ps.length : Int)), (21, vI s9)] ∧ Va ρ w 1 g1 28 ([vI a0.p, vI a0.n, vI a0.m, vI a0.k, va0]) ∧ O61 ρ w w0 3 v11 s10 ∧ Va ρ w 4 g4 78 (cProd.enc (gl zProd a0.ps s2))) (fun (s : Int × (List (List Int))) a w => match s with | (s9, s10) => ∃ ρ v11, Wd w0 ρ w ∧ Fr 54 a [(1, .pointer (some ((⟨g1, 0, none⟩ : Addr).add 0))), (3, v11), (11, va0), (12, vI (a0.ps.length : Int)), (13, vI s2)] ∧ Va ρ w 1 g1 28 ([vI a0.p, vI a0.n, vI a0.m, vI a0.k, va0]) ∧ O61 ρ w w0 3 v11 s10) ho8 ⟨_, _, hw, hf.sub ⟨rfl, rfl, rfl, rfl, rfl, rfl, rfl, rfl, rfl, rfl, trivial⟩, o1, o3, o4⟩ ?_ ?_)
    · rintro ⟨s9, s10⟩ lr a w ⟨ρ, v11, hw, hf, o1, o3, o4⟩ hF
      replace hF : impl_flips_l8 a0 s2 s9 s10 = some lr := hF
      unfold impl_flips_l8 at hF
      refine c_seq <| c_region ?_
      refine s_ hf (r_lss hf rfl rfl) fun a hf => ?_
      refine c_nt <| c_seq ?_
      rcases of_ite hF with ⟨hb12, hF⟩ | ⟨hb12, hF⟩
      rotate_left
      · refine c_iff hf rfl hb12 <| c_exit <| x_then ?_
        obtain rfl := Option.some.inj hF
        exact Rnd.stops ⟨_, _, hw, hf.sub ⟨rfl, rfl, rfl, rfl, rfl, trivial⟩, o1, o3⟩
      refine c_ift hf rfl hb12 <| c_skip <| n_then <| c_seq <| c_block <| c_seq <| c_region ?_
      refine s_ hf (r_move hf rfl) fun a hf => ?_
      obtain ⟨hc13, hF⟩ := of_guard hF
      obtain ⟨ad14, c14, he14, hl14⟩ := Ro.el cProd h0 zProd hc13.1 hc13.2
      refine s_ hf (r_idx Try.underlying26 sz78 hf rfl ⟨_, he14⟩ rfl hc13.1 hc13.2) fun a hf => ?_
      refine s_ hf (r_load_agg ty78 hf rfl (hl14.below hw.below) (cProd.len _)) fun a hf => ?_
      refine sx_ hf (r_alloc (cs := cProd.enc zProd) 5 ze78 rfl hw) fun a v w hf hΦ => ?_
      obtain ⟨g5, ρ, rfl, hw, hE, o5⟩ := hΦ
      replace o1 := o1.ext hE
      replace o3 := o3.ext hE
      replace o4 := o4.ext hE
      refine s_ hf (r_assign hf rfl) fun a hf => ?_
      refine sk_ hf (r_store_w (cs' := cProd.enc (gl zProd a0.ps s9)) hw o5 (by decide) ty78 (cProd.len _) (cProd.len _) (cProd.one _) hf rfl rfl rfl) fun a w hf hΦ => ?_
      obtain ⟨hw, hA, o5⟩ := hΦ
      replace o1 := o1.adv hA (by decide)
      replace o3 := o3.adv hA (by decide)
      replace o4 := o4.adv hA (by decide)
      refine c_nt <| c_seq <| c_region ?_
      refine s_ hf (r_move hf rfl) fun a hf => ?_
      refine c_nt ?_
      obtain ⟨ol15, ho15, hG15⟩ := of_bind hF
      clear hF
      refine c_block (c_loop (id := 4) (fun s => impl_flips_l15 a0 s2 s9 s.1 s.2) (fun (s : Int × (List (List Int))) a w => match s with | (s16, s17) => ∃ ρ v18, Wd w0 ρ w ∧ Fr 54 a [(1, .pointer (some ((⟨g1, 0, none⟩ : Addr).add 0))), (3, v18), (4, vI s2), (5, .pointer (some ((⟨g4, 0, none⟩ : Addr).add 0))), (6, vI s9), (7, .pointer (some ((⟨g5, 0, none⟩ : Addr).add 0))), (11, va0), (12, vI (a0.ps.length : Int)), (13, vI s2), (19, va0), (20, vI (a0.ps.length : Int)), (21, vI s9), (26, vI s16)] ∧ Va ρ w 1 g1 28 ([vI a0.p, vI a0.n, vI a0.m, vI a0.k, va0]) ∧ O61 ρ w w0 3 v18 s17 ∧ Va ρ w 4 g4 78 (cProd.enc (gl zProd a0.ps s2)) ∧ Va ρ w 5 g5 78 (cProd.enc (gl zProd a0.ps s9))) (fun (s : Int × (List (List Int))) a w => match s with | (s16, s17) => ∃ ρ v18, Wd w0 ρ w ∧ Fr 54 a [(1, .pointer (some ((⟨g1, 0, none⟩ : Addr).add 0))), (3, v18), (4, vI s2), (5, .pointer (some ((⟨g4, 0, none⟩ : Addr).add 0))), (11, va0), (12, vI (a0.ps.length : Int)), (13, vI s2), (19, va0), (20, vI (a0.ps.length : Int)), (21, vI s9)] ∧ Va ρ w 1 g1 28 ([vI a0.p, vI a0.n, vI a0.m, vI a0.k, va0]) ∧ O61 ρ w w0 3 v18 s17 ∧ Va ρ w 4 g4 78 (cProd.enc (gl zProd a0.ps s2))) ho15 ⟨_, _, hw, hf.sub ⟨rfl, rfl, rfl, rfl, rfl, rfl, rfl, rfl, rfl, rfl, rfl, rfl, rfl, trivial⟩, o1, o3, o4, o5⟩ ?_ ?_)
      · rintro ⟨s16, s17⟩ lr a w ⟨ρ, v18, hw, hf, o1, o3, o4, o5⟩ hF
        replace hF : impl_flips_l15 a0 s2 s9 s16 s17 = some lr := hF
        unfold impl_flips_l15 at hF
        refine c_seq <| c_region ?_
        refine s_ hf (r_lss hf rfl rfl) fun a hf => ?_
        refine c_nt <| c_seq ?_
        rcases of_ite hF with ⟨hb19, hF⟩ | ⟨hb19, hF⟩
        rotate_left
        · refine c_iff hf rfl hb19 <| c_exit <| x_then ?_
          obtain rfl := Option.some.inj hF
          exact Rnd.stops ⟨_, _, hw, hf.sub ⟨rfl, rfl, rfl, rfl, rfl, rfl, rfl, rfl, rfl, rfl, trivial⟩, o1, o3, o4⟩
        refine c_ift hf rfl hb19 <| c_skip <| n_then <| c_seq <| c_block <| c_seq <| c_region ?_
        refine s_ hf (r_move hf rfl) fun a hf => ?_
        refine s_ hf (r_assign hf rfl) fun a hf => ?_
        refine c_nt <| c_seq ?_
        obtain ⟨s21, hT20, hG20⟩ := of_bind hF
        clear hF
        refine c_meet (fun (s21 : Bool) a w => ∃ ρ, Wd w0 ρ w ∧ Fr 54 a [(1, .pointer (some ((⟨g1, 0, none⟩ : Addr).add 0))), (3, v18), (4, vI s2), (5, .pointer (some ((⟨g4, 0, none⟩ : Addr).add 0))), (6, vI s9), (7, .pointer (some ((⟨g5, 0, none⟩ : Addr).add 0))), (8, vI s16), (11, va0), (12, vI (a0.ps.length : Int)), (13, vI s2), (19, va0), (20, vI (a0.ps.length : Int)), (21, vI s9), (26, vI s16), (42, .bool s21)] ∧ Va ρ w 1 g1 28 ([vI a0.p, vI a0.n, vI a0.m, vI a0.k, va0]) ∧ O61 ρ w w0 3 v18 s17 ∧ Va ρ w 4 g4 78 (cProd.enc (gl zProd a0.ps s2)) ∧ Va ρ w 5 g5 78 (cProd.enc (gl zProd a0.ps s9))) s21 ?_ ?_
        · have hF := hT20
          rcases of_ite hF with ⟨hb22, hF⟩ | ⟨hb22, hF⟩
          rotate_left
          · replace hf : Fr 54 a [(1, .pointer (some ((⟨g1, 0, none⟩ : Addr).add 0))), (3, v18), (4, vI s2), (5, .pointer (some ((⟨g4, 0, none⟩ : Addr).add 0))), (6, vI s9), (7, .pointer (some ((⟨g5, 0, none⟩ : Addr).add 0))), (8, vI s16), (11, va0), (12, vI (a0.ps.length : Int)), (13, vI s2), (19, va0), (20, vI (a0.ps.length : Int)), (21, vI s9), (26, vI s16)] := hf.sub ⟨rfl, rfl, rfl, rfl, rfl, rfl, rfl, rfl, rfl, rfl, rfl, rfl, rfl, rfl, trivial⟩
            refine c_drawL (h := 12) mixed (by kernel_rfl) (by kernel_rfl) (fun ρ w => Va ρ w 1 g1 28 ([vI a0.p, vI a0.n, vI a0.m, vI a0.k, va0]) ∧ O61 ρ w w0 3 v18 s17 ∧ Va ρ w 4 g4 78 (cProd.enc (gl zProd a0.ps s2)) ∧ Va ρ w 5 g5 78 (cProd.enc (gl zProd a0.ps s9))) ?_ [fun ρ w v => vI s2 = v, fun ρ w v => vI s9 = v, fun ρ w v => .bool (decide (s2 ≠ s9)) = v, fun ρ w v => .bool (decide (s2 ≠ s9)) = v, fun ρ w v => undef = v, fun ρ w v => undef = v, fun ρ w v => undef = v, fun ρ w v => undef = v, fun ρ w v => undef = v, fun ρ w v => undef = v, fun ρ w v => undef = v, fun ρ w v => undef = v] ?_ hw ⟨o1, o3, o4, o5⟩ hf ?_ ?_
            · intro ρ w ρ' w' hE hG
              obtain ⟨o1, o3, o4, o5⟩ := hG
              exact ⟨o1.ext hE, o3.ext hE, o4.ext hE, o5.ext hE⟩
            · exact LastsL.cons (fun _ _ _ _ _ _ h => h) <| LastsL.cons (fun _ _ _ _ _ _ h => h) <| LastsL.cons (fun _ _ _ _ _ _ h => h) <| LastsL.cons (fun _ _ _ _ _ _ h => h) <| LastsL.cons (fun _ _ _ _ _ _ h => h) <| LastsL.cons (fun _ _ _ _ _ _ h => h) <| LastsL.cons (fun _ _ _ _ _ _ h => h) <| LastsL.cons (fun _ _ _ _ _ _ h => h) <| LastsL.cons (fun _ _ _ _ _ _ h => h) <| LastsL.cons (fun _ _ _ _ _ _ h => h) <| LastsL.cons (fun _ _ _ _ _ _ h => h) <| LastsL.cons (fun _ _ _ _ _ _ h => h) <| LastsL.nil
            · refine StepsB.cons ?_ <| StepsB.cons ?_ <| StepsB.cons ?_ <| StepsB.cons ?_ <| StepsB.cons ?_ <| StepsB.cons ?_ <| StepsB.cons ?_ <| StepsB.cons ?_ <| StepsB.cons ?_ <| StepsB.cons ?_ <| StepsB.cons ?_ <| StepsB.cons ?_ <| StepsB.nil
              · intro ρ w a hw hG hf hd K hK
                obtain ⟨o1, o3, o4, o5⟩ := hG
                exact dv_ hK hw (wn rfl) (r_move hf rfl) rfl
              · intro ρ w a hw hG hf hd K hK
                obtain ⟨o1, o3, o4, o5⟩ := hG
                exact dv_ hK hw (wn rfl) (r_move hf rfl) rfl
              · intro ρ w a hw hG hf hd K hK
                obtain ⟨o1, o3, o4, o5⟩ := hG
                obtain ⟨_, hf, rfl⟩ := got (hd 0 (by kernel_rfl)) hf
                obtain ⟨_, hf, rfl⟩ := got (hd 1 (by kernel_rfl)) hf
                exact dv_ hK hw (wn rfl) (r_neq hf rfl rfl) rfl
              · intro ρ w a hw hG hf hd K hK
                obtain ⟨o1, o3, o4, o5⟩ := hG
                obtain ⟨_, hf, rfl⟩ := got (hd 2 (by kernel_rfl)) hf
                exact dv_ hK hw (wn rfl) (r_move hf rfl) rfl
              · intro ρ w a hw hG hf hd K hK
                obtain ⟨o1, o3, o4, o5⟩ := hG
                obtain ⟨_, hf, rfl⟩ := got (hd 3 (by kernel_rfl)) hf
                exact do_ hK (b := false) hw hf rfl rfl rfl hb22 rfl rfl
              · intro ρ w a hw hG hf hd K hK
                obtain ⟨o1, o3, o4, o5⟩ := hG
                obtain ⟨_, hf, rfl⟩ := got (hd 3 (by kernel_rfl)) hf
                obtain ⟨_, hf, rfl⟩ := got (hd 4 (by kernel_rfl)) hf
                exact do_ hK (b := false) hw hf rfl rfl rfl hb22 rfl rfl
              · intro ρ w a hw hG hf hd K hK
                obtain ⟨o1, o3, o4, o5⟩ := hG
                obtain ⟨_, hf, rfl⟩ := got (hd 3 (by kernel_rfl)) hf
                exact do_ hK (b := false) hw hf rfl rfl rfl hb22 rfl rfl
              · intro ρ w a hw hG hf hd K hK
                obtain ⟨o1, o3, o4, o5⟩ := hG
                obtain ⟨_, hf, rfl⟩ := got (hd 3 (by kernel_rfl)) hf
                obtain ⟨_, hf, rfl⟩ := got (hd 5 (by kernel_rfl)) hf
                obtain ⟨_, hf, rfl⟩ := got (hd 6 (by kernel_rfl)) hf
                exact do_ hK (b := false) hw hf rfl rfl rfl hb22 rfl rfl
              · intro ρ w a hw hG hf hd K hK
                obtain ⟨o1, o3, o4, o5⟩ := hG
                obtain ⟨_, hf, rfl⟩ := got (hd 3 (by kernel_rfl)) hf
                exact do_ hK (b := false) hw hf rfl rfl rfl hb22 rfl rfl
              · intro ρ w a hw hG hf hd K hK
                obtain ⟨o1, o3, o4, o5⟩ := hG
                obtain ⟨_, hf, rfl⟩ := got (hd 3 (by kernel_rfl)) hf
                obtain ⟨_, hf, rfl⟩ := got (hd 8 (by kernel_rfl)) hf
                exact do_ hK (b := false) hw hf rfl rfl rfl hb22 rfl rfl
              · intro ρ w a hw hG hf hd K hK
                obtain ⟨o1, o3, o4, o5⟩ := hG
                obtain ⟨_, hf, rfl⟩ := got (hd 3 (by kernel_rfl)) hf
                exact do_ hK (b := false) hw hf rfl rfl rfl hb22 rfl rfl
              · intro ρ w a hw hG hf hd K hK
                obtain ⟨o1, o3, o4, o5⟩ := hG
                obtain ⟨_, hf, rfl⟩ := got (hd 3 (by kernel_rfl)) hf
                obtain ⟨_, hf, rfl⟩ := got (hd 9 (by kernel_rfl)) hf
                obtain ⟨_, hf, rfl⟩ := got (hd 10 (by kernel_rfl)) hf
                exact do_ hK (b := false) hw hf rfl rfl rfl hb22 rfl rfl
            intro ρ w a hw hG hf hd
            obtain ⟨o1, o3, o4, o5⟩ := hG
            obtain ⟨_, hf, rfl⟩ := got (hd 3 (by decide)) hf
            obtain ⟨_, hf, rfl⟩ := got (hd 7 (by decide)) hf
            obtain ⟨_, hf, rfl⟩ := got (hd 11 (by decide)) hf
            refine st_no (b := false) hf rfl rfl rfl hb22 rfl (by decide) fun a hf => ?_
            refine s_ hf (r_pick (b := false) hf rfl hb22 rfl) fun a hf => ?_
            refine c_nil ⟨rfl, ?_⟩
            obtain rfl := Option.some.inj hF
            exact ⟨_, hw, hf.sub ⟨rfl, rfl, rfl, rfl, rfl, rfl, rfl, rfl, rfl, rfl, rfl, rfl, rfl, rfl, rfl, trivial⟩, o1, o3, o4, o5⟩
          obtain ⟨x23, hx24, hF⟩ := of_bind hF
          obtain ⟨hc25, hF⟩ := of_guard hF
          obtain ⟨x26, hx27, hF⟩ := of_bind hF
          replace hf : Fr 54 a [(1, .pointer (some ((⟨g1, 0, none⟩ : Addr).add 0))), (3, v18), (4, vI s2), (5, .pointer (some ((⟨g4, 0, none⟩ : Addr).add 0))), (6, vI s9), (7, .pointer (some ((⟨g5, 0, none⟩ : Addr).add 0))), (8, vI s16), (11, va0), (12, vI (a0.ps.length : Int)), (13, vI s2), (19, va0), (20, vI (a0.ps.length : Int)), (21, vI s9), (26, vI s16)] := hf.sub ⟨rfl, rfl, rfl, rfl, rfl, rfl, rfl, rfl, rfl, rfl, rfl, rfl, rfl, rfl, trivial⟩
          refine c_drawL (h := 12) mixed (by kernel_rfl) (by kernel_rfl) (fun ρ w => Va ρ w 1 g1 28 ([vI a0.p, vI a0.n, vI a0.m, vI a0.k, va0]) ∧ O61 ρ w w0 3 v18 s17 ∧ Va ρ w 4 g4 78 (cProd.enc (gl zProd a0.ps s2)) ∧ Va ρ w 5 g5 78 (cProd.enc (gl zProd a0.ps s9))) ?_ [fun ρ w v => vI s2 = v, fun ρ w v => vI s9 = v, fun ρ w v => .bool (decide (s2 ≠ s9)) = v, fun ρ w v => .bool (decide (s2 ≠ s9)) = v, fun ρ w v => .agg (cProd.enc (gl zProd a0.ps s2)).toArray = v, fun ρ w v => .agg (cForms.enc x23).toArray = v, fun ρ w v => vI s16 = v, fun ρ w v => .agg (cForm.enc (vg zForm x23 s16)).toArray = v, fun ρ w v => .agg (cProd.enc (gl zProd a0.ps s9)).toArray = v, fun ρ w v => .agg (cForms.enc x26).toArray = v, fun ρ w v => vI s16 = v, fun ρ w v => .agg (cForm.enc (vg zForm x26 s16)).toArray = v] ?_ hw ⟨o1, o3, o4, o5⟩ hf ?_ ?_
          · intro ρ w ρ' w' hE hG
            obtain ⟨o1, o3, o4, o5⟩ := hG
            exact ⟨o1.ext hE, o3.ext hE, o4.ext hE, o5.ext hE⟩
          · exact LastsL.cons (fun _ _ _ _ _ _ h => h) <| LastsL.cons (fun _ _ _ _ _ _ h => h) <| LastsL.cons (fun _ _ _ _ _ _ h => h) <| LastsL.cons (fun _ _ _ _ _ _ h => h) <| LastsL.cons (fun _ _ _ _ _ _ h => h) <| LastsL.cons (fun _ _ _ _ _ _ h => h) <| LastsL.cons (fun _ _ _ _ _ _ h => h) <| LastsL.cons (fun _ _ _ _ _ _ h => h) <| LastsL.cons (fun _ _ _ _ _ _ h => h) <| LastsL.cons (fun _ _ _ _ _ _ h => h) <| LastsL.cons (fun _ _ _ _ _ _ h => h) <| LastsL.cons (fun _ _ _ _ _ _ h => h) <| LastsL.nil
          · refine StepsB.cons ?_ <| StepsB.cons ?_ <| StepsB.cons ?_ <| StepsB.cons ?_ <| StepsB.cons ?_ <| StepsB.cons ?_ <| StepsB.cons ?_ <| StepsB.cons ?_ <| StepsB.cons ?_ <| StepsB.cons ?_ <| StepsB.cons ?_ <| StepsB.cons ?_ <| StepsB.nil
            · intro ρ w a hw hG hf hd K hK
              obtain ⟨o1, o3, o4, o5⟩ := hG
              exact dv_ hK hw (wn rfl) (r_move hf rfl) rfl
            · intro ρ w a hw hG hf hd K hK
              obtain ⟨o1, o3, o4, o5⟩ := hG
              exact dv_ hK hw (wn rfl) (r_move hf rfl) rfl
            · intro ρ w a hw hG hf hd K hK
              obtain ⟨o1, o3, o4, o5⟩ := hG
              obtain ⟨_, hf, rfl⟩ := got (hd 0 (by kernel_rfl)) hf
              obtain ⟨_, hf, rfl⟩ := got (hd 1 (by kernel_rfl)) hf
              exact dv_ hK hw (wn rfl) (r_neq hf rfl rfl) rfl
            · intro ρ w a hw hG hf hd K hK
              obtain ⟨o1, o3, o4, o5⟩ := hG
              obtain ⟨_, hf, rfl⟩ := got (hd 2 (by kernel_rfl)) hf
              exact dv_ hK hw (wn rfl) (r_move hf rfl) rfl
            · intro ρ w a hw hG hf hd K hK
              obtain ⟨o1, o3, o4, o5⟩ := hG
              obtain ⟨_, hf, rfl⟩ := got (hd 3 (by kernel_rfl)) hf
              exact dv_ hK hw (wg (b := true) hf rfl rfl rfl hb22) (r_load_agg ty78 hf rfl o4.cl (cProd.len _)) rfl
            · intro ρ w a hw hG hf hd K hK
              obtain ⟨o1, o3, o4, o5⟩ := hG
              obtain ⟨_, hf, rfl⟩ := got (hd 3 (by kernel_rfl)) hf
              obtain ⟨_, hf, rfl⟩ := got (hd 4 (by kernel_rfl)) hf
              refine dc_ hK hw (wg (b := true) hf rfl rfl rfl hb22) (r_fn en87 hf rfl) (impl_factors_ok  hx24) fun v w' hΦ => ?_
              obtain ⟨hb, hΦ⟩ := hΦ
              obtain rfl := hΦ
              have hE := Ext.new (ρ := ρ) 6 hb
              exact ⟨_, hw.new 6 hb, hE, rfl⟩
            · intro ρ w a hw hG hf hd K hK
              obtain ⟨o1, o3, o4, o5⟩ := hG
              obtain ⟨_, hf, rfl⟩ := got (hd 3 (by kernel_rfl)) hf
              exact dv_ hK hw (wg (b := true) hf rfl rfl rfl hb22) (r_move hf rfl) rfl
            · intro ρ w a hw hG hf hd K hK
              obtain ⟨o1, o3, o4, o5⟩ := hG
              obtain ⟨_, hf, rfl⟩ := got (hd 3 (by kernel_rfl)) hf
              obtain ⟨_, hf, rfl⟩ := got (hd 5 (by kernel_rfl)) hf
              obtain ⟨_, hf, rfl⟩ := got (hd 6 (by kernel_rfl)) hf
              exact dv_ hK hw (wg (b := true) hf rfl rfl rfl hb22) (r_index_la Try.underlying91 ty39 hf rfl rfl hc25.1 hc25.2 (Lens.vec zForm cForm s16 hc25.1 hc25.2)) rfl
            · intro ρ w a hw hG hf hd K hK
              obtain ⟨o1, o3, o4, o5⟩ := hG
              obtain ⟨_, hf, rfl⟩ := got (hd 3 (by kernel_rfl)) hf
              exact dv_ hK hw (wg (b := true) hf rfl rfl rfl hb22) (r_load_agg ty78 hf rfl o5.cl (cProd.len _)) rfl
            · intro ρ w a hw hG hf hd K hK
              obtain ⟨o1, o3, o4, o5⟩ := hG
              obtain ⟨_, hf, rfl⟩ := got (hd 3 (by kernel_rfl)) hf
              obtain ⟨_, hf, rfl⟩ := got (hd 8 (by kernel_rfl)) hf
              refine dc_ hK hw (wg (b := true) hf rfl rfl rfl hb22) (r_fn en87 hf rfl) (impl_factors_ok  hx27) fun v w' hΦ => ?_
              obtain ⟨hb, hΦ⟩ := hΦ
              obtain rfl := hΦ
              have hE := Ext.new (ρ := ρ) 7 hb
              exact ⟨_, hw.new 7 hb, hE, rfl⟩
            · intro ρ w a hw hG hf hd K hK
              obtain ⟨o1, o3, o4, o5⟩ := hG
              obtain ⟨_, hf, rfl⟩ := got (hd 3 (by kernel_rfl)) hf
              exact dv_ hK hw (wg (b := true) hf rfl rfl rfl hb22) (r_move hf rfl) rfl
            · intro ρ w a hw hG hf hd K hK
              obtain ⟨o1, o3, o4, o5⟩ := hG
              obtain ⟨_, hf, rfl⟩ := got (hd 3 (by kernel_rfl)) hf
              obtain ⟨_, hf, rfl⟩ := got (hd 9 (by kernel_rfl)) hf
              obtain ⟨_, hf, rfl⟩ := got (hd 10 (by kernel_rfl)) hf
              exact dv_ hK hw (wg (b := true) hf rfl rfl rfl hb22) (r_index_la Try.underlying91 ty39 hf rfl rfl hc25.1 hc25.2 (Lens.vec zForm cForm s16 hc25.1 hc25.2)) rfl
          intro ρ w a hw hG hf hd
          obtain ⟨o1, o3, o4, o5⟩ := hG
          obtain ⟨_, hf, rfl⟩ := got (hd 3 (by decide)) hf
          obtain ⟨_, hf, rfl⟩ := got (hd 7 (by decide)) hf
          obtain ⟨_, hf, rfl⟩ := got (hd 11 (by decide)) hf
          refine st_g (b := true) hf rfl rfl rfl hb22 rfl (by decide) (r_eq (d := cForm) eq39 ⟨_, rfl⟩ gt39 hf rfl rfl) fun a hf => ?_
          refine s_ hf (r_pick (b := true) hf rfl hb22 rfl) fun a hf => ?_
          refine c_nil ⟨rfl, ?_⟩
          obtain rfl := Option.some.inj hF
          exact ⟨_, hw, hf.sub ⟨rfl, rfl, rfl, rfl, rfl, rfl, rfl, rfl, rfl, rfl, rfl, rfl, rfl, rfl, rfl, trivial⟩, o1, o3, o4, o5⟩
        rintro a w ⟨ρ, hw, hf, o1, o3, o4, o5⟩
        have hF := hG20
        refine n_then ?_
        rcases of_ite hF with ⟨hb28, hF⟩ | ⟨hb28, hF⟩
        rotate_left
        · refine c_iff hf rfl hb28 <| c_skip <| n_block <| n_then <| c_region ?_
          refine s_ hf (r_add hf rfl rfl) fun a hf => ?_
          refine s_ hf (r_move hf rfl) fun a hf => ?_
          refine c_nil ?_
          obtain rfl := Option.some.inj hF
          exact Rnd.goes ⟨_, _, hw, hf.sub ⟨rfl, rfl, rfl, rfl, rfl, rfl, rfl, rfl, rfl, rfl, rfl, rfl, rfl, trivial⟩, o1, o3, o4, o5⟩
        refine c_ift hf rfl hb28 <| c_region ?_
        refine s_ hf (r_move hf rfl) fun a hf => ?_
        refine s_ hf (r_move hf rfl) fun a hf => ?_
        refine s_ hf (r_move hf rfl) fun a hf => ?_
        refine s_ hf (r_move hf rfl) fun a hf => ?_
        refine sx_ hf (r_lit (d := fI64) (xs := ([s2, s9, s16] : List Int)) (vs := [vI s2, vI s9, vI s16]) 8 Try.underlying61 el2 (Nat.le_of_ble_eq_true rfl) (Nat.le_of_ble_eq_true rfl) hw hf rfl rfl rfl) fun a v8 w hf hΦ => ?_
        obtain ⟨ρ, hw, hE, o8⟩ := hΦ
        replace o1 := o1.ext hE
        replace o3 := o3.ext hE
        replace o4 := o4.ext hE
        replace o5 := o5.ext hE
        refine sx_ hf (r_lit_row 9 Try.underlying44 el61 hw (by decide) hf rfl o8) fun a v9 w hf hΦ => ?_
        obtain ⟨ρ, hw, hT, hB, o9⟩ := hΦ
        replace o1 := o1.tr (hT 1 (by decide))
        replace o3 := o3.tr (hT 3 (by decide))
        replace o4 := o4.tr (hT 4 (by decide))
        replace o5 := o5.tr (hT 5 (by decide))
        obtain ⟨hc29, hF⟩ := of_guard hF
        refine sx_ hf (r_append_own Try.underlying44 el61 hw (by decide) (by decide) (by decide) o3 o9 hc29 hf rfl rfl) fun a va30 w hf hΦ => ?_
        obtain ⟨ρ, hw, hT, o3⟩ := hΦ
        replace o1 := o1.tr (hT 1 (by decide) (by decide))
        replace o4 := o4.tr (hT 4 (by decide) (by decide))
        replace o5 := o5.tr (hT 5 (by decide) (by decide))
        refine s_ hf (r_assign hf rfl) fun a hf => ?_
        refine c_nil <| n_block <| n_then <| c_region ?_
        refine s_ hf (r_add hf rfl rfl) fun a hf => ?_
        refine s_ hf (r_move hf rfl) fun a hf => ?_
        refine c_nil ?_
        obtain rfl := Option.some.inj hF
        exact Rnd.goes ⟨_, _, hw, hf.sub ⟨rfl, rfl, rfl, rfl, rfl, rfl, rfl, rfl, rfl, rfl, rfl, rfl, rfl, trivial⟩, o1, o3, o4, o5⟩
      rintro ⟨s16, s17⟩ a w hs ⟨ρ, v18, hw, hf, o1, o3, o4⟩
      subst hs
      have hF := hG15
      dsimp only at hF
      refine x_block <| n_block <| n_then <| c_region ?_
      refine s_ hf (r_add hf rfl rfl) fun a hf => ?_
      refine s_ hf (r_move hf rfl) fun a hf => ?_
      refine c_nil ?_
      obtain rfl := Option.some.inj hF
      exact Rnd.goes ⟨_, _, hw, hf.sub ⟨rfl, rfl, rfl, rfl, rfl, rfl, rfl, rfl, rfl, rfl, trivial⟩, o1, o3, o4⟩
    rintro ⟨s9, s10⟩ a w hs ⟨ρ, v11, hw, hf, o1, o3⟩
    subst hs
    have hF := hG8
    dsimp only at hF
    refine x_block <| n_block <| n_then <| c_region ?_
    refine s_ hf (r_add hf rfl rfl) fun a hf => ?_
    refine s_ hf (r_move hf rfl) fun a hf => ?_
    refine c_nil ?_
    obtain rfl := Option.some.inj hF
    exact Rnd.goes ⟨_, _, hw, hf.sub ⟨rfl, rfl, rfl, rfl, rfl, trivial⟩, o1, o3⟩
  rintro ⟨s2, s3⟩ a w hs ⟨ρ, v4, hw, hf, o3⟩
  subst hs
  have hF := hG1
  dsimp only at hF
  refine x_block <| n_then <| c_seq <| c_region ?_
  refine s_ hf (r_move hf rfl) fun a hf => ?_
  refine s_ hf (r_assign hf rfl) fun a hf => ?_
  refine c_nt <| c_retc ?_
  obtain rfl := Option.some.inj hF
  refine c_ret hf (res_tmp Try.results111 hf rfl) ?_
  exact ⟨_, rfl, hw.below, ⟨_, rfl, o3.out⟩⟩
/-! f45 -/
noncomputable def spec_WalkFlips_l5 (a1 : List Int) (s6 : Int) : Option (LR Int (Sch × Int)) :=
  if (decide (s6 < (a1.length : Int))) = true then (if 0 ≤ s6 ∧ s6 < (a1.length : Int) then (if (decide ((gl 0 a1 s6) < 0)) = true then (some (.ret ((⟨0, 0, 0, 0, ([] : List Prod)⟩ : Sch), 2))) else (some (.next (w64 (s6 + 1))))) else none) else (some (.stop s6))
noncomputable def spec_WalkFlips_l15 (a1 : List Int) (s16 : Int) (s17 : List Prod) (s19 : Int) (s20 : Int) (s21 : Int) (s22 : Int) : Option (LR (Int × (List Prod) × Int × Int × Int × Int) (Sch × Int)) :=
  if (decide (s16 < (a1.length : Int))) = true then ((spec_l03Flips (⟨s19, s20, s21, s22, s17⟩ : Sch)).bind fun x24 => if (decide ((x24.length : Int) = 0)) = true then (some (.stop (s16, s17, s19, s20, s21, s22))) else (if 0 ≤ s16 ∧ s16 < (a1.length : Int) then (if (x24.length : Int) ≠ 0 then (if 0 ≤ (gl 0 a1 s16).tmod (x24.length : Int) ∧ (gl 0 a1 s16).tmod (x24.length : Int) < (x24.length : Int) then (if 0 ≤ (0 : Int) ∧ (0 : Int) < ((gl [] x24 ((gl 0 a1 s16).tmod (x24.length : Int))).length : Int) then (if 0 ≤ (1 : Int) ∧ (1 : Int) < ((gl [] x24 ((gl 0 a1 s16).tmod (x24.length : Int))).length : Int) then (if 0 ≤ (2 : Int) ∧ (2 : Int) < ((gl [] x24 ((gl 0 a1 s16).tmod (x24.length : Int))).length : Int) then ((spec_l03Flip (⟨s19, s20, s21, s22, s17⟩ : Sch) (gl 0 (gl [] x24 ((gl 0 a1 s16).tmod (x24.length : Int))) (0 : Int)) (gl 0 (gl [] x24 ((gl 0 a1 s16).tmod (x24.length : Int))) (1 : Int)) (gl 0 (gl [] x24 ((gl 0 a1 s16).tmod (x24.length : Int))) (2 : Int)) 1).bind fun x40 => some (.next (w64 (s16 + 1), x40.ps, x40.p, x40.n, x40.m, x40.k))) else none) else none) else none) else none) else none) else none)) else (some (.stop (s16, s17, s19, s20, s21, s22)))
noncomputable def spec_WalkFlips (a0 : Sch) (a1 : List Int) : Option (Sch × Int) :=
  (spec_l01Is a0).bind fun x1 => if (!x1) = true then (some (((⟨0, 0, 0, 0, ([] : List Prod)⟩ : Sch), 1))) else (if (decide (200 < (a1.length : Int))) = true then (some (((⟨0, 0, 0, 0, ([] : List Prod)⟩ : Sch), 2))) else ((iter (fun s => spec_WalkFlips_l5 a1 s) 0).bind fun o => match o with | .stop s6 => ((spec_l03Told a0 a0.ps).bind fun x11 => (iter (fun s => spec_WalkFlips_l15 a1 s.1 s.2.1 s.2.2.1 s.2.2.2.1 s.2.2.2.2.1 s.2.2.2.2.2) (0, x11.ps, x11.p, x11.n, x11.m, x11.k)).bind fun o => match o with | .stop (s16, s17, s19, s20, s21, s22) => (some (((⟨s19, s20, s21, s22, s17⟩ : Sch), 0))) | .ret r => some r | .next _ => none) | .ret r => some r | .next _ => none))
theorem spec_WalkFlips_ok {w0 : World} {a0 : Sch} {a1 : List Int} {va0 : Value} {va1 : Value} (h0 : Ro (kf cProd) w0 va0 a0.ps) (h1 : Ro (kf fI64) w0 va1 a1) {r : Sch × Int} (hF : spec_WalkFlips a0 a1 = some r) :
    Calls Try.prog 45 [.agg ([vI a0.p, vI a0.n, vI a0.m, vI a0.k, va0]).toArray, va1].toArray w0 fun e w => ∃ v, e = .returned v ∧ Below w0.heap.size w0 w ∧ ∃ u0, .tuple #[.agg [.int .i64 r.1.p, .int .i64 r.1.n, .int .i64 r.1.m, .int .i64 r.1.k, u0].toArray, .int .i64 r.2] = v ∧ Fresh (kf cProd) 78 w0 w u0 r.1.ps := by
  refine calls_of (k := 68) Try.func45 rfl rfl (Nat.le_of_ble_eq_true rfl) fun a hf => ?_
  replace hf : Fr 68 a [(0, .agg ([vI a0.p, vI a0.n, vI a0.m, vI a0.k, va0]).toArray), (1, va1)] := hf
  refine c_start fun w ρ hw => ?_
  unfold spec_WalkFlips at hF
  refine c_seq <| c_region ?_
  refine sx_ hf (r_box (cs := [vI a0.p, vI a0.n, vI a0.m, vI a0.k, va0]) 1 hw hf rfl rfl) fun a v w hf hΦ => ?_
  obtain ⟨g1, ρ, rfl, hw, hE, o1⟩ := hΦ
  have o3 : Ow (kf cProd) 78 ρ w w0.heap.size 3 (.slice none 0 0) [] := Ow.nil _ _ _ _ _ _
  refine sx_ hf (r_alloc (cs := [vI 0, vI 0, vI 0, vI 0, (.slice none 0 0)]) 2 ze28 rfl hw) fun a v w hf hΦ => ?_
  obtain ⟨g2, ρ, rfl, hw, hE, o2⟩ := hΦ
  replace o1 := o1.ext hE
  replace o3 := o3.ext hE
  refine s_ hf (r_assign hf rfl) fun a hf => ?_
  refine c_nt <| c_seq <| c_seq <| c_region ?_
  refine s_ hf (r_load_agg ty28 hf rfl o1.cl rfl) fun a hf => ?_
  obtain ⟨x1, hx2, hF⟩ := of_bind hF
  refine st_fn 4 hw hf rfl rfl (by decide) (r_fn en69 hf rfl) (spec_l01Is_ok (a0 := a0) (h0.now hw) hx2) fun a v w ρ hf hw hE hN hΦ => ?_
  obtain rfl := hΦ
  replace o1 := o1.ext hE
  replace o3 := o3.ext hE
  replace o2 := o2.ext hE
  refine s_ hf (r_not hf rfl) fun a hf => ?_
  refine c_nt ?_
  rcases of_ite hF with ⟨hb3, hF⟩ | ⟨hb3, hF⟩
  · refine c_ift hf rfl hb3 <| c_seq <| c_region ?_
    have o5 : Ow (kf cProd) 78 ρ w w0.heap.size 5 (.slice none 0 0) [] := Ow.nil _ _ _ _ _ _
    refine s_ hf (r_build_struct (pl := [(0, 1), (1, 1), (2, 1), (3, 1), (4, 1)]) (vs := []) (res := ([vI 0, vI 0, vI 0, vI 0, (.slice none 0 0)]).toArray) Try.underlying28 (by kernel_rfl) ze28 hf rfl rfl rfl) fun a hf => ?_
    refine sk_ hf (r_store_w (cs' := [vI 0, vI 0, vI 0, vI 0, (.slice none 0 0)]) hw o2 (by decide) ty28 rfl rfl (one_sch o5.ro.one) hf rfl rfl rfl) fun a w hf hΦ => ?_
    obtain ⟨hw, hA, o2⟩ := hΦ
    replace o1 := o1.adv hA (by decide)
    replace o3 := o3.adv hA (by decide)
    replace o5 := o5.adv hA (by decide)
    refine s_ hf (r_assign hf rfl) fun a hf => ?_
    refine c_nt <| c_retc ?_
    obtain rfl := Option.some.inj hF
    refine r_then <| c_ret hf (res_ct Try.results45 ty28 hf rfl o2.cl rfl rfl) ?_
    exact ⟨_, rfl, hw.below, ⟨_, rfl, o5.out⟩⟩
  refine c_iff hf rfl hb3 <| c_skip <| n_then <| c_seq <| c_seq <| c_region ?_
  refine s_ hf (r_move hf rfl) fun a hf => ?_
  refine s_ hf (r_len Try.underlying61 (h1.now hw) hf rfl) fun a hf => ?_
  refine s_ hf (r_gtr hf rfl rfl) fun a hf => ?_
  refine c_nt ?_
  rcases of_ite hF with ⟨hb4, hF⟩ | ⟨hb4, hF⟩
  · refine c_ift hf rfl hb4 <| c_seq <| c_region ?_
    have o6 : Ow (kf cProd) 78 ρ w w0.heap.size 6 (.slice none 0 0) [] := Ow.nil _ _ _ _ _ _
    refine s_ hf (r_build_struct (pl := [(0, 1), (1, 1), (2, 1), (3, 1), (4, 1)]) (vs := []) (res := ([vI 0, vI 0, vI 0, vI 0, (.slice none 0 0)]).toArray) Try.underlying28 (by kernel_rfl) ze28 hf rfl rfl rfl) fun a hf => ?_
    refine sk_ hf (r_store_w (cs' := [vI 0, vI 0, vI 0, vI 0, (.slice none 0 0)]) hw o2 (by decide) ty28 rfl rfl (one_sch o6.ro.one) hf rfl rfl rfl) fun a w hf hΦ => ?_
    obtain ⟨hw, hA, o2⟩ := hΦ
    replace o1 := o1.adv hA (by decide)
    replace o3 := o3.adv hA (by decide)
    replace o6 := o6.adv hA (by decide)
    refine s_ hf (r_assign hf rfl) fun a hf => ?_
    refine c_nt <| c_retc ?_
    obtain rfl := Option.some.inj hF
    refine r_then <| c_ret hf (res_ct Try.results45 ty28 hf rfl o2.cl rfl rfl) ?_
    exact ⟨_, rfl, hw.below, ⟨_, rfl, o6.out⟩⟩
  refine c_iff hf rfl hb4 <| c_skip <| n_then <| c_seq <| c_seq <| c_region ?_
  refine s_ hf (r_assign hf rfl) fun a hf => ?_
  refine c_nt ?_
  obtain ⟨ol5, ho5, hG5⟩ := of_bind hF
  clear hF
  refine c_block (c_loop (id := 0) (fun s => spec_WalkFlips_l5 a1 s) (fun (s6 : Int) a w => ∃ ρ, Wd w0 ρ w ∧ Fr 68 a [(1, va1), (2, .pointer (some ((⟨g1, 0, none⟩ : Addr).add 0))), (4, .pointer (some ((⟨g2, 0, none⟩ : Addr).add 0))), (6, vI s6)] ∧ Va ρ w 1 g1 28 ([vI a0.p, vI a0.n, vI a0.m, vI a0.k, va0]) ∧ Va ρ w 2 g2 28 ([vI 0, vI 0, vI 0, vI 0, (.slice none 0 0)]) ∧ O78 ρ w w0 3 (.slice none 0 0) ([] : List Prod)) (fun (s6 : Int) a w => ∃ ρ, Wd w0 ρ w ∧ Fr 68 a [(1, va1), (2, .pointer (some ((⟨g1, 0, none⟩ : Addr).add 0))), (4, .pointer (some ((⟨g2, 0, none⟩ : Addr).add 0)))] ∧ Va ρ w 1 g1 28 ([vI a0.p, vI a0.n, vI a0.m, vI a0.k, va0]) ∧ Va ρ w 2 g2 28 ([vI 0, vI 0, vI 0, vI 0, (.slice none 0 0)]) ∧ O78 ρ w w0 3 (.slice none 0 0) ([] : List Prod)) ho5 ⟨_, hw, hf.sub ⟨rfl, rfl, rfl, rfl, trivial⟩, o1, o2, o3⟩ ?_ ?_)
  · rintro s6 lr a w ⟨ρ, hw, hf, o1, o2, o3⟩ hF
    replace hF : spec_WalkFlips_l5 a1 s6 = some lr := hF
    unfold spec_WalkFlips_l5 at hF
    refine c_seq <| c_seq <| c_region ?_
    refine s_ hf (r_move hf rfl) fun a hf => ?_
    refine s_ hf (r_move hf rfl) fun a hf => ?_
    refine s_ hf (r_len Try.underlying61 (h1.now hw) hf rfl) fun a hf => ?_
    refine s_ hf (r_lss hf rfl rfl) fun a hf => ?_
    refine c_nt ?_
    rcases of_ite hF with ⟨hb7, hF⟩ | ⟨hb7, hF⟩
    rotate_left
    · refine c_iff hf rfl hb7 <| c_exit <| x_then ?_
      obtain rfl := Option.some.inj hF
      exact Rnd.stops ⟨_, hw, hf.sub ⟨rfl, rfl, rfl, trivial⟩, o1, o2, o3⟩
    refine c_ift hf rfl hb7 <| c_skip <| n_then <| c_seq <| c_block <| c_seq <| c_region ?_
    refine s_ hf (r_move hf rfl) fun a hf => ?_
    refine s_ hf (r_move hf rfl) fun a hf => ?_
    obtain ⟨hc8, hF⟩ := of_guard hF
    obtain ⟨ad9, c9, he9, hl9⟩ := Ro.el fI64 h1 0 hc8.1 hc8.2
    refine s_ hf (r_idx Try.underlying61 sz2 hf rfl ⟨_, he9⟩ rfl hc8.1 hc8.2) fun a hf => ?_
    refine s_ hf (r_load_cell ty2 hf rfl (hl9.below hw.below)) fun a hf => ?_
    refine s_ hf (r_lss hf rfl rfl) fun a hf => ?_
    refine c_nt ?_
    rcases of_ite hF with ⟨hb10, hF⟩ | ⟨hb10, hF⟩
    rotate_left
    · refine c_iff hf rfl hb10 <| c_skip <| n_block <| n_then <| c_region ?_
      refine s_ hf (r_move hf rfl) fun a hf => ?_
      refine s_ hf (r_add hf rfl rfl) fun a hf => ?_
      refine s_ hf (r_assign hf rfl) fun a hf => ?_
      refine c_nil ?_
      obtain rfl := Option.some.inj hF
      exact Rnd.goes ⟨_, hw, hf.sub ⟨rfl, rfl, rfl, rfl, trivial⟩, o1, o2, o3⟩
    refine c_ift hf rfl hb10 <| c_seq <| c_region ?_
    have o7 : Ow (kf cProd) 78 ρ w w0.heap.size 7 (.slice none 0 0) [] := Ow.nil _ _ _ _ _ _
    refine s_ hf (r_build_struct (pl := [(0, 1), (1, 1), (2, 1), (3, 1), (4, 1)]) (vs := []) (res := ([vI 0, vI 0, vI 0, vI 0, (.slice none 0 0)]).toArray) Try.underlying28 (by kernel_rfl) ze28 hf rfl rfl rfl) fun a hf => ?_
    refine sk_ hf (r_store_w (cs' := [vI 0, vI 0, vI 0, vI 0, (.slice none 0 0)]) hw o2 (by decide) ty28 rfl rfl (one_sch o7.ro.one) hf rfl rfl rfl) fun a w hf hΦ => ?_
    obtain ⟨hw, hA, o2⟩ := hΦ
    replace o1 := o1.adv hA (by decide)
    replace o3 := o3.adv hA (by decide)
    replace o7 := o7.adv hA (by decide)
    refine s_ hf (r_assign hf rfl) fun a hf => ?_
    refine c_nt <| c_retc ?_
    obtain rfl := Option.some.inj hF
    refine r_block <| r_then ?_
    refine Rnd.rets fun ho => ?_
    subst ho
    have hF := hG5
    dsimp only at hF
    obtain rfl := Option.some.inj hF
    refine r_block <| r_then <| c_ret hf (res_ct Try.results45 ty28 hf rfl o2.cl rfl rfl) ?_
    exact ⟨_, rfl, hw.below, ⟨_, rfl, o7.out⟩⟩
  rintro s6 a w hs ⟨ρ, hw, hf, o1, o2, o3⟩
  subst hs
  have hF := hG5
  dsimp only at hF
  refine x_block <| n_then <| c_seq <| c_region ?_
  refine s_ hf (r_load_agg ty28 hf rfl o1.cl rfl) fun a hf => ?_
  refine s_ hf (r_fa fa28_4 hf rfl) fun a hf => ?_
  refine s_ hf (r_load_cell ty26 hf rfl (o1.cl.at_ 4 _ rfl)) fun a hf => ?_
  obtain ⟨x11, hx12, hF⟩ := of_bind hF
  refine st_fn 8 hw hf rfl rfl (by decide) (r_fn en73 hf rfl) (spec_l03Told_ok (a0 := a0) (h0.now hw) (h0.now hw) hx12) fun a v w ρ hf hw hE hN hΦ => ?_
  obtain ⟨u13, rfl, hr14⟩ := hΦ
  replace o1 := o1.ext hE
  replace o2 := o2.ext hE
  replace o3 := o3.ext hE
  have o8 := hN hr14
  have o10 : Ow (kf cProd) 78 ρ w w0.heap.size 10 (.slice none 0 0) [] := Ow.nil _ _ _ _ _ _
  refine sx_ hf (r_alloc (cs := [vI 0, vI 0, vI 0, vI 0, (.slice none 0 0)]) 9 ze28 rfl hw) fun a v w hf hΦ => ?_
  obtain ⟨g9, ρ, rfl, hw, hE, o9⟩ := hΦ
  replace o1 := o1.ext hE
  replace o2 := o2.ext hE
  replace o3 := o3.ext hE
  replace o8 := o8.ext hE
  replace o10 := o10.ext hE
  refine sk_ hf (r_store_w (cs' := [vI x11.p, vI x11.n, vI x11.m, vI x11.k, u13]) hw o9 (by decide) ty28 rfl rfl (one_sch o8.ro.one) hf rfl rfl rfl) fun a w hf hΦ => ?_
  obtain ⟨hw, hA, o9⟩ := hΦ
  replace o1 := o1.adv hA (by decide)
  replace o2 := o2.adv hA (by decide)
  replace o3 := o3.adv hA (by decide)
  replace o8 := o8.adv hA (by decide)
  replace o10 := o10.adv hA (by decide)
  refine c_nt <| c_seq <| c_seq <| c_region ?_
  refine s_ hf (r_assign hf rfl) fun a hf => ?_
  refine c_nt ?_
  obtain ⟨ol15, ho15, hG15⟩ := of_bind hF
  clear hF
  refine c_block (c_loop (id := 2) (fun s => spec_WalkFlips_l15 a1 s.1 s.2.1 s.2.2.1 s.2.2.2.1 s.2.2.2.2.1 s.2.2.2.2.2) (fun (s : Int × (List Prod) × Int × Int × Int × Int) a w => match s with | (s16, s17, s19, s20, s21, s22) => ∃ ρ v18, Wd w0 ρ w ∧ Fr 68 a [(1, va1), (4, .pointer (some ((⟨g2, 0, none⟩ : Addr).add 0))), (7, .pointer (some ((⟨g9, 0, none⟩ : Addr).add 0))), (8, vI s16)] ∧ Va ρ w 2 g2 28 ([vI 0, vI 0, vI 0, vI 0, (.slice none 0 0)]) ∧ O78 ρ w w0 3 (.slice none 0 0) ([] : List Prod) ∧ O78 ρ w w0 8 v18 s17 ∧ Va ρ w 9 g9 28 ([vI s19, vI s20, vI s21, vI s22, v18])) (fun (s : Int × (List Prod) × Int × Int × Int × Int) a w => match s with | (s16, s17, s19, s20, s21, s22) => ∃ ρ v18, Wd w0 ρ w ∧ Fr 68 a [(4, .pointer (some ((⟨g2, 0, none⟩ : Addr).add 0))), (7, .pointer (some ((⟨g9, 0, none⟩ : Addr).add 0)))] ∧ Va ρ w 2 g2 28 ([vI 0, vI 0, vI 0, vI 0, (.slice none 0 0)]) ∧ O78 ρ w w0 3 (.slice none 0 0) ([] : List Prod) ∧ O78 ρ w w0 8 v18 s17 ∧ Va ρ w 9 g9 28 ([vI s19, vI s20, vI s21, vI s22, v18])) ho15 ⟨_, _, hw, hf.sub ⟨rfl, rfl, rfl, rfl, trivial⟩, o2, o3, o8, o9⟩ ?_ ?_)
  · rintro ⟨s16, s17, s19, s20, s21, s22⟩ lr a w ⟨ρ, v18, hw, hf, o2, o3, o8, o9⟩ hF
    replace hF : spec_WalkFlips_l15 a1 s16 s17 s19 s20 s21 s22 = some lr := hF
    unfold spec_WalkFlips_l15 at hF
    refine c_seq <| c_seq <| c_region ?_
    refine s_ hf (r_move hf rfl) fun a hf => ?_
    refine s_ hf (r_move hf rfl) fun a hf => ?_
    refine s_ hf (r_len Try.underlying61 (h1.now hw) hf rfl) fun a hf => ?_
    refine s_ hf (r_lss hf rfl rfl) fun a hf => ?_
    refine c_nt ?_
    rcases of_ite hF with ⟨hb23, hF⟩ | ⟨hb23, hF⟩
    rotate_left
    · refine c_iff hf rfl hb23 <| c_exit <| x_then ?_
      obtain rfl := Option.some.inj hF
      exact Rnd.stops ⟨_, _, hw, hf.sub ⟨rfl, rfl, trivial⟩, o2, o3, o8, o9⟩
    refine c_ift hf rfl hb23 <| c_skip <| n_then <| c_seq <| c_block <| c_seq <| c_region ?_
    refine s_ hf (r_load_agg ty28 hf rfl o9.cl rfl) fun a hf => ?_
    obtain ⟨x24, hx25, hF⟩ := of_bind hF
    refine st_fn 11 hw hf rfl rfl (by decide) (r_fn en110 hf rfl) (spec_l03Flips_ok (a0 := (⟨s19, s20, s21, s22, s17⟩ : Sch)) o8.ro hx25) fun a v w ρ hf hw hE hN hΦ => ?_
    obtain ⟨u26, rfl, hr27⟩ := hΦ
    replace o2 := o2.ext hE
    replace o3 := o3.ext hE
    replace o8 := o8.ext hE
    replace o9 := o9.ext hE
    have o11 := hN hr27
    refine s_ hf (r_assign hf rfl) fun a hf => ?_
    refine c_nt <| c_seq <| c_seq <| c_region ?_
    refine s_ hf (r_move hf rfl) fun a hf => ?_
    refine s_ hf (r_len Try.underlying44 o11.ro hf rfl) fun a hf => ?_
    refine s_ hf (r_eql hf rfl rfl) fun a hf => ?_
    refine c_nt ?_
    rcases of_ite hF with ⟨hb28, hF⟩ | ⟨hb28, hF⟩
    · refine c_ift hf rfl hb28 <| c_exit <| x_then <| x_past (by decide) <| x_then ?_
      obtain rfl := Option.some.inj hF
      exact Rnd.stops ⟨_, _, hw, hf.sub ⟨rfl, rfl, trivial⟩, o2, o3, o8, o9⟩
    refine c_iff hf rfl hb28 <| c_skip <| n_then <| c_seq <| c_region ?_
    refine s_ hf (r_move hf rfl) fun a hf => ?_
    refine s_ hf (r_move hf rfl) fun a hf => ?_
    refine s_ hf (r_move hf rfl) fun a hf => ?_
    obtain ⟨hc29, hF⟩ := of_guard hF
    obtain ⟨ad30, c30, he30, hl30⟩ := Ro.el fI64 h1 0 hc29.1 hc29.2
    refine s_ hf (r_idx Try.underlying61 sz2 hf rfl ⟨_, he30⟩ rfl hc29.1 hc29.2) fun a hf => ?_
    refine s_ hf (r_load_cell ty2 hf rfl (hl30.below hw.below)) fun a hf => ?_
    refine s_ hf (r_move hf rfl) fun a hf => ?_
    refine s_ hf (r_len Try.underlying44 o11.ro hf rfl) fun a hf => ?_
    obtain ⟨hc31, hF⟩ := of_guard hF
    refine s_ hf (r_rem hf rfl rfl hc31) fun a hf => ?_
    obtain ⟨hc32, hF⟩ := of_guard hF
    obtain ⟨ad33, c33, u33, he33, hl33, ho33⟩ := Ro.el_row o11.ro hc32.1 hc32.2
    refine s_ hf (r_idx Try.underlying44 sz61 hf rfl ⟨_, he33⟩ rfl hc32.1 hc32.2) fun a hf => ?_
    refine s_ hf (r_load_cell ty61 hf rfl hl33) fun a hf => ?_
    refine s_ hf (r_assign hf rfl) fun a hf => ?_
    refine c_nt ?_
    obtain ⟨hc34, hF⟩ := of_guard hF
    obtain ⟨hc36, hF⟩ := of_guard hF
    obtain ⟨hc38, hF⟩ := of_guard hF
    replace hf : Fr 68 a [(1, va1), (4, .pointer (some ((⟨g2, 0, none⟩ : Addr).add 0))), (7, .pointer (some ((⟨g9, 0, none⟩ : Addr).add 0))), (8, vI s16), (10, u33)] := hf.sub ⟨rfl, rfl, rfl, rfl, rfl, trivial⟩
    refine c_drawL (h := 10) mixed (by kernel_rfl) (by kernel_rfl) (fun ρ w => Va ρ w 2 g2 28 ([vI 0, vI 0, vI 0, vI 0, (.slice none 0 0)]) ∧ O78 ρ w w0 3 (.slice none 0 0) ([] : List Prod) ∧ O78 ρ w w0 8 v18 s17 ∧ Va ρ w 9 g9 28 ([vI s19, vI s20, vI s21, vI s22, v18]) ∧ Ro (kf fI64) w u33 (gl [] x24 ((gl 0 a1 s16).tmod (x24.length : Int)))) ?_ [fun ρ w v => .agg ([vI s19, vI s20, vI s21, vI s22, v18]).toArray = v, fun ρ w v => u33 = v, fun ρ w v => ∃ ad35, .pointer (some (ad35.add ((0 : Int).toNat * 1))) = v ∧ Cl w ad35 ((0 : Int).toNat * 1) (fI64.enc (gl 0 (gl [] x24 ((gl 0 a1 s16).tmod (x24.length : Int))) (0 : Int))), fun ρ w v => vI (gl 0 (gl [] x24 ((gl 0 a1 s16).tmod (x24.length : Int))) (0 : Int)) = v, fun ρ w v => u33 = v, fun ρ w v => ∃ ad37, .pointer (some (ad37.add ((1 : Int).toNat * 1))) = v ∧ Cl w ad37 ((1 : Int).toNat * 1) (fI64.enc (gl 0 (gl [] x24 ((gl 0 a1 s16).tmod (x24.length : Int))) (1 : Int))), fun ρ w v => vI (gl 0 (gl [] x24 ((gl 0 a1 s16).tmod (x24.length : Int))) (1 : Int)) = v, fun ρ w v => u33 = v, fun ρ w v => ∃ ad39, .pointer (some (ad39.add ((2 : Int).toNat * 1))) = v ∧ Cl w ad39 ((2 : Int).toNat * 1) (fI64.enc (gl 0 (gl [] x24 ((gl 0 a1 s16).tmod (x24.length : Int))) (2 : Int))), fun ρ w v => vI (gl 0 (gl [] x24 ((gl 0 a1 s16).tmod (x24.length : Int))) (2 : Int)) = v] ?_ hw ⟨o2, o3, o8, o9, ho33⟩ hf ?_ ?_
    · intro ρ w ρ' w' hE hG
      obtain ⟨o2, o3, o8, o9, ho33⟩ := hG
      exact ⟨o2.ext hE, o3.ext hE, o8.ext hE, o9.ext hE, ho33.ext hE⟩
    · exact LastsL.cons (fun _ _ _ _ _ _ h => h) <| LastsL.cons (fun _ _ _ _ _ _ h => h) <| LastsL.cons (fun _ _ _ _ _ hE h => by obtain ⟨ad35, h, hl35⟩ := h; exact ⟨_, h, hl35.ext hE⟩) <| LastsL.cons (fun _ _ _ _ _ _ h => h) <| LastsL.cons (fun _ _ _ _ _ _ h => h) <| LastsL.cons (fun _ _ _ _ _ hE h => by obtain ⟨ad37, h, hl37⟩ := h; exact ⟨_, h, hl37.ext hE⟩) <| LastsL.cons (fun _ _ _ _ _ _ h => h) <| LastsL.cons (fun _ _ _ _ _ _ h => h) <| LastsL.cons (fun _ _ _ _ _ hE h => by obtain ⟨ad39, h, hl39⟩ := h; exact ⟨_, h, hl39.ext hE⟩) <| LastsL.cons (fun _ _ _ _ _ _ h => h) <| LastsL.nil
    · refine StepsB.cons ?_ <| StepsB.cons ?_ <| StepsB.cons ?_ <| StepsB.cons ?_ <| StepsB.cons ?_ <| StepsB.cons ?_ <| StepsB.cons ?_ <| StepsB.cons ?_ <| StepsB.cons ?_ <| StepsB.cons ?_ <| StepsB.nil
      · intro ρ w a hw hG hf hd K hK
        obtain ⟨o2, o3, o8, o9, ho33⟩ := hG
        exact dv_ hK hw (wn rfl) (r_load_agg ty28 hf rfl o9.cl rfl) rfl
      · intro ρ w a hw hG hf hd K hK
        obtain ⟨o2, o3, o8, o9, ho33⟩ := hG
        exact dv_ hK hw (wn rfl) (r_move hf rfl) rfl
      · intro ρ w a hw hG hf hd K hK
        obtain ⟨o2, o3, o8, o9, ho33⟩ := hG
        obtain ⟨_, hf, rfl⟩ := got (hd 1 (by kernel_rfl)) hf
        obtain ⟨ad35, c35, he35, hl35⟩ := Ro.el fI64 ho33 0 hc34.1 hc34.2
        exact dv_ hK hw (wn rfl) (r_idx Try.underlying61 sz2 hf rfl ⟨_, he35⟩ rfl hc34.1 hc34.2) (ex_ <| an_ rfl <| hl35)
      · intro ρ w a hw hG hf hd K hK
        obtain ⟨o2, o3, o8, o9, ho33⟩ := hG
        obtain ⟨_, hf, ⟨ad35, rfl, hl35⟩⟩ := got (hd 2 (by kernel_rfl)) hf
        exact dv_ hK hw (wn rfl) (r_load_cell ty2 hf rfl hl35) rfl
      · intro ρ w a hw hG hf hd K hK
        obtain ⟨o2, o3, o8, o9, ho33⟩ := hG
        exact dv_ hK hw (wn rfl) (r_move hf rfl) rfl
      · intro ρ w a hw hG hf hd K hK
        obtain ⟨o2, o3, o8, o9, ho33⟩ := hG
        obtain ⟨_, hf, rfl⟩ := got (hd 4 (by kernel_rfl)) hf
        obtain ⟨ad37, c37, he37, hl37⟩ := Ro.el fI64 ho33 0 hc36.1 hc36.2
        exact dv_ hK hw (wn rfl) (r_idx Try.underlying61 sz2 hf rfl ⟨_, he37⟩ rfl hc36.1 hc36.2) (ex_ <| an_ rfl <| hl37)
      · intro ρ w a hw hG hf hd K hK
        obtain ⟨o2, o3, o8, o9, ho33⟩ := hG
        obtain ⟨_, hf, ⟨ad37, rfl, hl37⟩⟩ := got (hd 5 (by kernel_rfl)) hf
        exact dv_ hK hw (wn rfl) (r_load_cell ty2 hf rfl hl37) rfl
      · intro ρ w a hw hG hf hd K hK
        obtain ⟨o2, o3, o8, o9, ho33⟩ := hG
        exact dv_ hK hw (wn rfl) (r_move hf rfl) rfl
      · intro ρ w a hw hG hf hd K hK
        obtain ⟨o2, o3, o8, o9, ho33⟩ := hG
        obtain ⟨_, hf, rfl⟩ := got (hd 7 (by kernel_rfl)) hf
        obtain ⟨ad39, c39, he39, hl39⟩ := Ro.el fI64 ho33 0 hc38.1 hc38.2
        exact dv_ hK hw (wn rfl) (r_idx Try.underlying61 sz2 hf rfl ⟨_, he39⟩ rfl hc38.1 hc38.2) (ex_ <| an_ rfl <| hl39)
      · intro ρ w a hw hG hf hd K hK
        obtain ⟨o2, o3, o8, o9, ho33⟩ := hG
        obtain ⟨_, hf, ⟨ad39, rfl, hl39⟩⟩ := got (hd 8 (by kernel_rfl)) hf
        exact dv_ hK hw (wn rfl) (r_load_cell ty2 hf rfl hl39) rfl
    intro ρ w a hw hG hf hd
    obtain ⟨o2, o3, o8, o9, ho33⟩ := hG
    obtain ⟨_, hf, rfl⟩ := got (hd 0 (by decide)) hf
    obtain ⟨_, hf, rfl⟩ := got (hd 3 (by decide)) hf
    obtain ⟨_, hf, rfl⟩ := got (hd 6 (by decide)) hf
    obtain ⟨_, hf, rfl⟩ := got (hd 9 (by decide)) hf
    obtain ⟨x40, hx41, hF⟩ := of_bind hF
    refine st_fn 17 hw hf rfl rfl (by decide) (r_fn en89 hf rfl) (spec_l03Flip_ok (a0 := (⟨s19, s20, s21, s22, s17⟩ : Sch)) o8.ro hx41) fun a v w ρ hf hw hE hN hΦ => ?_
    obtain ⟨u42, rfl, hr43⟩ := hΦ
    replace o2 := o2.ext hE
    replace o3 := o3.ext hE
    replace o8 := o8.ext hE
    replace o9 := o9.ext hE
    replace ho33 := ho33.ext hE
    have o17 := hN hr43
    refine sk_ hf (r_store_w (cs' := [vI x40.p, vI x40.n, vI x40.m, vI x40.k, u42]) hw o9 (by decide) ty28 rfl rfl (one_sch o17.ro.one) hf rfl rfl rfl) fun a w hf hΦ => ?_
    obtain ⟨hw, hA, o9⟩ := hΦ
    replace o2 := o2.adv hA (by decide)
    replace o3 := o3.adv hA (by decide)
    replace o8 := o8.adv hA (by decide)
    replace o17 := o17.adv hA (by decide)
    refine c_nil <| n_block <| n_then <| c_region ?_
    refine s_ hf (r_move hf rfl) fun a hf => ?_
    refine s_ hf (r_add hf rfl rfl) fun a hf => ?_
    refine s_ hf (r_assign hf rfl) fun a hf => ?_
    refine c_nil ?_
    obtain rfl := Option.some.inj hF
    replace o2 := o2.tr (Tr.relab (j := 17) (b := 8) (by decide))
    replace o3 := o3.tr (Tr.relab (j := 17) (b := 8) (by decide))
    replace o9 := o9.tr (Tr.relab (j := 17) (b := 8) (by decide))
    replace o17 := o17.relab 8
    replace hw := hw.relab (j := 17) (by decide) 8
    exact Rnd.goes ⟨_, _, hw, hf.sub ⟨rfl, rfl, rfl, rfl, trivial⟩, o2, o3, o17, o9⟩
  rintro ⟨s16, s17, s19, s20, s21, s22⟩ a w hs ⟨ρ, v18, hw, hf, o2, o3, o8, o9⟩
  subst hs
  have hF := hG15
  dsimp only at hF
  refine x_block <| n_then <| c_seq <| c_region ?_
  refine s_ hf (r_load_agg ty28 hf rfl o9.cl rfl) fun a hf => ?_
  refine sk_ hf (r_store_w (cs' := [vI s19, vI s20, vI s21, vI s22, v18]) hw o2 (by decide) ty28 rfl rfl (one_sch o8.ro.one) hf rfl rfl rfl) fun a w hf hΦ => ?_
  obtain ⟨hw, hA, o2⟩ := hΦ
  replace o3 := o3.adv hA (by decide)
  replace o8 := o8.adv hA (by decide)
  replace o9 := o9.adv hA (by decide)
  refine s_ hf (r_assign hf rfl) fun a hf => ?_
  refine c_nt <| c_retc ?_
  obtain rfl := Option.some.inj hF
  refine c_ret hf (res_ct Try.results45 ty28 hf rfl o2.cl rfl rfl) ?_
  exact ⟨_, rfl, hw.below, ⟨_, rfl, o8.out⟩⟩
/-! f47 -/
noncomputable def impl_WalkFlips_l5 (a1 : List Int) (s6 : Int) : Option (LR Int (Sch × Int)) :=
  if (decide (s6 < (a1.length : Int))) = true then (if 0 ≤ s6 ∧ s6 < (a1.length : Int) then (if (decide ((gl 0 a1 s6) < 0)) = true then (some (.ret ((⟨0, 0, 0, 0, ([] : List Prod)⟩ : Sch), 2))) else (some (.next (w64 (s6 + 1))))) else none) else (some (.stop s6))
noncomputable def impl_WalkFlips_l18 (a1 : List Int) (s19 : Int) (s20 : Int) (s21 : Int) (s22 : Int) (s23 : Int) (s24 : List Prod) : Option (LR (Int × Int × Int × Int × Int × (List Prod)) (Sch × Int)) :=
  if (decide (s19 < (a1.length : Int))) = true then (if 0 ≤ s19 ∧ s19 < (a1.length : Int) then ((impl_flips (⟨s20, s21, s22, s23, s24⟩ : Sch)).bind fun x29 => if (decide (0 < (x29.length : Int))) = true then (if (x29.length : Int) ≠ 0 then (if 0 ≤ (gl 0 a1 s19).tmod (x29.length : Int) ∧ (gl 0 a1 s19).tmod (x29.length : Int) < (x29.length : Int) then (if 0 ≤ (0 : Int) ∧ (0 : Int) < ((gl [] x29 ((gl 0 a1 s19).tmod (x29.length : Int))).length : Int) then (if 0 ≤ (1 : Int) ∧ (1 : Int) < ((gl [] x29 ((gl 0 a1 s19).tmod (x29.length : Int))).length : Int) then (if 0 ≤ (2 : Int) ∧ (2 : Int) < ((gl [] x29 ((gl 0 a1 s19).tmod (x29.length : Int))).length : Int) then ((impl_flip (⟨s20, s21, s22, s23, s24⟩ : Sch) (gl 0 (gl [] x29 ((gl 0 a1 s19).tmod (x29.length : Int))) (0 : Int)) (gl 0 (gl [] x29 ((gl 0 a1 s19).tmod (x29.length : Int))) (1 : Int)) (gl 0 (gl [] x29 ((gl 0 a1 s19).tmod (x29.length : Int))) (2 : Int)) 1).bind fun x43 => some (.next (w64 (s19 + 1), x43.p, x43.n, x43.m, x43.k, x43.ps))) else none) else none) else none) else none) else none) else (some (.next (w64 (s19 + 1), s20, s21, s22, s23, s24)))) else none) else (some (.stop (s19, s20, s21, s22, s23, s24)))
noncomputable def impl_WalkFlips (a0 : Sch) (a1 : List Int) : Option (Sch × Int) :=
  (impl_IsScheme a0).bind fun x1 => if (!x1) = true then (some (((⟨0, 0, 0, 0, ([] : List Prod)⟩ : Sch), 1))) else (if (decide (200 < (a1.length : Int))) = true then (some (((⟨0, 0, 0, 0, ([] : List Prod)⟩ : Sch), 2))) else ((iter (fun s => impl_WalkFlips_l5 a1 s) 0).bind fun o => match o with | .stop s6 => ((slices_Clone_76 a0.ps).bind fun x11 => (impl_with a0 x11).bind fun x15 => (iter (fun s => impl_WalkFlips_l18 a1 s.1 s.2.1 s.2.2.1 s.2.2.2.1 s.2.2.2.2.1 s.2.2.2.2.2) (0, x15.p, x15.n, x15.m, x15.k, x15.ps)).bind fun o => match o with | .stop (s19, s20, s21, s22, s23, s24) => (some (((⟨s20, s21, s22, s23, s24⟩ : Sch), 0))) | .ret r => some r | .next _ => none) | .ret r => some r | .next _ => none))
theorem impl_WalkFlips_ok {w0 : World} {a0 : Sch} {a1 : List Int} {va0 : Value} {va1 : Value} (h0 : Ro (kf cProd) w0 va0 a0.ps) (h1 : Ro (kf fI64) w0 va1 a1) {r : Sch × Int} (hF : impl_WalkFlips a0 a1 = some r) :
    Calls Try.prog 47 [.agg ([vI a0.p, vI a0.n, vI a0.m, vI a0.k, va0]).toArray, va1].toArray w0 fun e w => ∃ v, e = .returned v ∧ Below w0.heap.size w0 w ∧ ∃ u0, .tuple #[.agg [.int .i64 r.1.p, .int .i64 r.1.n, .int .i64 r.1.m, .int .i64 r.1.k, u0].toArray, .int .i64 r.2] = v ∧ Fresh (kf cProd) 78 w0 w u0 r.1.ps := by
  refine calls_of (k := 66) Try.func47 rfl rfl (Nat.le_of_ble_eq_true rfl) fun a hf => ?_
  replace hf : Fr 66 a [(0, .agg ([vI a0.p, vI a0.n, vI a0.m, vI a0.k, va0]).toArray), (1, va1)] := hf
  refine c_start fun w ρ hw => ?_
  unfold impl_WalkFlips at hF
  refine c_seq <| c_region ?_
  refine sx_ hf (r_box (cs := [vI a0.p, vI a0.n, vI a0.m, vI a0.k, va0]) 1 hw hf rfl rfl) fun a v w hf hΦ => ?_
  obtain ⟨g1, ρ, rfl, hw, hE, o1⟩ := hΦ
  have o3 : Ow (kf cProd) 78 ρ w w0.heap.size 3 (.slice none 0 0) [] := Ow.nil _ _ _ _ _ _
  refine sx_ hf (r_alloc (cs := [vI 0, vI 0, vI 0, vI 0, (.slice none 0 0)]) 2 ze28 rfl hw) fun a v w hf hΦ => ?_
  obtain ⟨g2, ρ, rfl, hw, hE, o2⟩ := hΦ
  replace o1 := o1.ext hE
  replace o3 := o3.ext hE
  refine s_ hf (r_assign hf rfl) fun a hf => ?_
  refine c_nt <| c_seq <| c_seq <| c_region ?_
  refine s_ hf (r_load_agg ty28 hf rfl o1.cl rfl) fun a hf => ?_
  obtain ⟨x1, hx2, hF⟩ := of_bind hF
  refine st_fn 4 hw hf rfl rfl (by decide) (r_fn en74 hf rfl) (impl_IsScheme_ok (a0 := a0) (h0.now hw) hx2) fun a v w ρ hf hw hE hN hΦ => ?_
  obtain rfl := hΦ
  replace o1 := o1.ext hE
  replace o3 := o3.ext hE
  replace o2 := o2.ext hE
  refine s_ hf (r_not hf rfl) fun a hf => ?_
  refine c_nt ?_
  rcases of_ite hF with ⟨hb3, hF⟩ | ⟨hb3, hF⟩
  · refine c_ift hf rfl hb3 <| c_seq <| c_region ?_
    have o5 : Ow (kf cProd) 78 ρ w w0.heap.size 5 (.slice none 0 0) [] := Ow.nil _ _ _ _ _ _
    refine s_ hf (r_build_struct (pl := [(0, 1), (1, 1), (2, 1), (3, 1), (4, 1)]) (vs := []) (res := ([vI 0, vI 0, vI 0, vI 0, (.slice none 0 0)]).toArray) Try.underlying28 (by kernel_rfl) ze28 hf rfl rfl rfl) fun a hf => ?_
    refine sk_ hf (r_store_w (cs' := [vI 0, vI 0, vI 0, vI 0, (.slice none 0 0)]) hw o2 (by decide) ty28 rfl rfl (one_sch o5.ro.one) hf rfl rfl rfl) fun a w hf hΦ => ?_
    obtain ⟨hw, hA, o2⟩ := hΦ
    replace o1 := o1.adv hA (by decide)
    replace o3 := o3.adv hA (by decide)
    replace o5 := o5.adv hA (by decide)
    refine s_ hf (r_assign hf rfl) fun a hf => ?_
    refine c_nt <| c_retc ?_
    obtain rfl := Option.some.inj hF
    refine r_then <| c_ret hf (res_ct Try.results47 ty28 hf rfl o2.cl rfl rfl) ?_
    exact ⟨_, rfl, hw.below, ⟨_, rfl, o5.out⟩⟩
  refine c_iff hf rfl hb3 <| c_skip <| n_then <| c_seq <| c_seq <| c_region ?_
  refine s_ hf (r_move hf rfl) fun a hf => ?_
  refine s_ hf (r_len Try.underlying61 (h1.now hw) hf rfl) fun a hf => ?_
  refine s_ hf (r_gtr hf rfl rfl) fun a hf => ?_
  refine c_nt ?_
  rcases of_ite hF with ⟨hb4, hF⟩ | ⟨hb4, hF⟩
  · refine c_ift hf rfl hb4 <| c_seq <| c_region ?_
    have o6 : Ow (kf cProd) 78 ρ w w0.heap.size 6 (.slice none 0 0) [] := Ow.nil _ _ _ _ _ _
    refine s_ hf (r_build_struct (pl := [(0, 1), (1, 1), (2, 1), (3, 1), (4, 1)]) (vs := []) (res := ([vI 0, vI 0, vI 0, vI 0, (.slice none 0 0)]).toArray) Try.underlying28 (by kernel_rfl) ze28 hf rfl rfl rfl) fun a hf => ?_
    refine sk_ hf (r_store_w (cs' := [vI 0, vI 0, vI 0, vI 0, (.slice none 0 0)]) hw o2 (by decide) ty28 rfl rfl (one_sch o6.ro.one) hf rfl rfl rfl) fun a w hf hΦ => ?_
    obtain ⟨hw, hA, o2⟩ := hΦ
    replace o1 := o1.adv hA (by decide)
    replace o3 := o3.adv hA (by decide)
    replace o6 := o6.adv hA (by decide)
    refine s_ hf (r_assign hf rfl) fun a hf => ?_
    refine c_nt <| c_retc ?_
    obtain rfl := Option.some.inj hF
    refine r_then <| c_ret hf (res_ct Try.results47 ty28 hf rfl o2.cl rfl rfl) ?_
    exact ⟨_, rfl, hw.below, ⟨_, rfl, o6.out⟩⟩
  refine c_iff hf rfl hb4 <| c_skip <| n_then <| c_seq <| c_seq <| c_region ?_
  refine s_ hf (r_move hf rfl) fun a hf => ?_
  refine s_ hf (r_len Try.underlying61 (h1.now hw) hf rfl) fun a hf => ?_
  refine s_ hf (r_move hf rfl) fun a hf => ?_
  refine c_nt ?_
  obtain ⟨ol5, ho5, hG5⟩ := of_bind hF
  clear hF
  refine c_block (c_loop (id := 0) (fun s => impl_WalkFlips_l5 a1 s) (fun (s6 : Int) a w => ∃ ρ, Wd w0 ρ w ∧ Fr 66 a [(1, va1), (2, .pointer (some ((⟨g1, 0, none⟩ : Addr).add 0))), (4, .pointer (some ((⟨g2, 0, none⟩ : Addr).add 0))), (20, va1), (21, vI (a1.length : Int)), (22, vI s6)] ∧ Va ρ w 1 g1 28 ([vI a0.p, vI a0.n, vI a0.m, vI a0.k, va0]) ∧ Va ρ w 2 g2 28 ([vI 0, vI 0, vI 0, vI 0, (.slice none 0 0)]) ∧ O78 ρ w w0 3 (.slice none 0 0) ([] : List Prod)) (fun (s6 : Int) a w => ∃ ρ, Wd w0 ρ w ∧ Fr 66 a [(1, va1), (2, .pointer (some ((⟨g1, 0, none⟩ : Addr).add 0))), (4, .pointer (some ((⟨g2, 0, none⟩ : Addr).add 0)))] ∧ Va ρ w 1 g1 28 ([vI a0.p, vI a0.n, vI a0.m, vI a0.k, va0]) ∧ Va ρ w 2 g2 28 ([vI 0, vI 0, vI 0, vI 0, (.slice none 0 0)]) ∧ O78 ρ w w0 3 (.slice none 0 0) ([] : List Prod)) ho5 ⟨_, hw, hf.sub ⟨rfl, rfl, rfl, rfl, rfl, rfl, trivial⟩, o1, o2, o3⟩ ?_ ?_)
  · rintro s6 lr a w ⟨ρ, hw, hf, o1, o2, o3⟩ hF
    replace hF : impl_WalkFlips_l5 a1 s6 = some lr := hF
    unfold impl_WalkFlips_l5 at hF
    refine c_seq <| c_region ?_
    refine s_ hf (r_lss hf rfl rfl) fun a hf => ?_
    refine c_nt <| c_seq ?_
    rcases of_ite hF with ⟨hb7, hF⟩ | ⟨hb7, hF⟩
    rotate_left
    · refine c_iff hf rfl hb7 <| c_exit <| x_then ?_
      obtain rfl := Option.some.inj hF
      exact Rnd.stops ⟨_, hw, hf.sub ⟨rfl, rfl, rfl, trivial⟩, o1, o2, o3⟩
    refine c_ift hf rfl hb7 <| c_skip <| n_then <| c_seq <| c_block <| c_seq <| c_region ?_
    obtain ⟨hc8, hF⟩ := of_guard hF
    obtain ⟨ad9, c9, he9, hl9⟩ := Ro.el fI64 h1 0 hc8.1 hc8.2
    refine s_ hf (r_idx Try.underlying61 sz2 hf rfl ⟨_, he9⟩ rfl hc8.1 hc8.2) fun a hf => ?_
    refine s_ hf (r_load_cell ty2 hf rfl (hl9.below hw.below)) fun a hf => ?_
    refine s_ hf (r_assign hf rfl) fun a hf => ?_
    refine c_nt <| c_seq <| c_region ?_
    refine s_ hf (r_move hf rfl) fun a hf => ?_
    refine s_ hf (r_lss hf rfl rfl) fun a hf => ?_
    refine c_nt ?_
    rcases of_ite hF with ⟨hb10, hF⟩ | ⟨hb10, hF⟩
    rotate_left
    · refine c_iff hf rfl hb10 <| c_skip <| n_block <| n_then <| c_region ?_
      refine s_ hf (r_add hf rfl rfl) fun a hf => ?_
      refine s_ hf (r_move hf rfl) fun a hf => ?_
      refine c_nil ?_
      obtain rfl := Option.some.inj hF
      exact Rnd.goes ⟨_, hw, hf.sub ⟨rfl, rfl, rfl, rfl, rfl, rfl, trivial⟩, o1, o2, o3⟩
    refine c_ift hf rfl hb10 <| c_seq <| c_region ?_
    have o7 : Ow (kf cProd) 78 ρ w w0.heap.size 7 (.slice none 0 0) [] := Ow.nil _ _ _ _ _ _
    refine s_ hf (r_build_struct (pl := [(0, 1), (1, 1), (2, 1), (3, 1), (4, 1)]) (vs := []) (res := ([vI 0, vI 0, vI 0, vI 0, (.slice none 0 0)]).toArray) Try.underlying28 (by kernel_rfl) ze28 hf rfl rfl rfl) fun a hf => ?_
    refine sk_ hf (r_store_w (cs' := [vI 0, vI 0, vI 0, vI 0, (.slice none 0 0)]) hw o2 (by decide) ty28 rfl rfl (one_sch o7.ro.one) hf rfl rfl rfl) fun a w hf hΦ => ?_
    obtain ⟨hw, hA, o2⟩ := hΦ
    replace o1 := o1.adv hA (by decide)
    replace o3 := o3.adv hA (by decide)
    replace o7 := o7.adv hA (by decide)
    refine s_ hf (r_assign hf rfl) fun a hf => ?_
    refine c_nt <| c_retc ?_
    obtain rfl := Option.some.inj hF
    refine r_block <| r_then ?_
    refine Rnd.rets fun ho => ?_
    subst ho
    have hF := hG5
    dsimp only at hF
    obtain rfl := Option.some.inj hF
    refine r_block <| r_then <| c_ret hf (res_ct Try.results47 ty28 hf rfl o2.cl rfl rfl) ?_
    exact ⟨_, rfl, hw.below, ⟨_, rfl, o7.out⟩⟩
  rintro s6 a w hs ⟨ρ, hw, hf, o1, o2, o3⟩
  subst hs
  have hF := hG5
  dsimp only at hF
  refine x_block <| n_then <| c_seq ?_
  obtain ⟨x11, hx12, hF⟩ := of_bind hF
  replace hf : Fr 66 a [(1, va1), (2, .pointer (some ((⟨g1, 0, none⟩ : Addr).add 0))), (4, .pointer (some ((⟨g2, 0, none⟩ : Addr).add 0)))] := hf.sub ⟨rfl, rfl, rfl, trivial⟩
  refine c_drawL (h := 4) mixed (by kernel_rfl) (by kernel_rfl) (fun ρ w => Va ρ w 1 g1 28 ([vI a0.p, vI a0.n, vI a0.m, vI a0.k, va0]) ∧ Va ρ w 2 g2 28 ([vI 0, vI 0, vI 0, vI 0, (.slice none 0 0)]) ∧ O78 ρ w w0 3 (.slice none 0 0) ([] : List Prod)) ?_ [fun ρ w v => .agg ([vI a0.p, vI a0.n, vI a0.m, vI a0.k, va0]).toArray = v, fun ρ w v => .pointer (some ((⟨g1, 0, none⟩ : Addr).add (0 + 4))) = v, fun ρ w v => va0 = v, fun ρ w v => ∃ u13, u13 = v ∧ O78 ρ w w0 8 u13 x11] ?_ hw ⟨o1, o2, o3⟩ hf ?_ ?_
  · intro ρ w ρ' w' hE hG
    obtain ⟨o1, o2, o3⟩ := hG
    exact ⟨o1.ext hE, o2.ext hE, o3.ext hE⟩
  · exact LastsL.cons (fun _ _ _ _ _ _ h => h) <| LastsL.cons (fun _ _ _ _ _ _ h => h) <| LastsL.cons (fun _ _ _ _ _ _ h => h) <| LastsL.cons (fun _ _ _ _ _ hE h => by obtain ⟨u13, h, o8⟩ := h; exact ⟨_, h, o8.ext hE⟩) <| LastsL.nil
  · refine StepsB.cons ?_ <| StepsB.cons ?_ <| StepsB.cons ?_ <| StepsB.cons ?_ <| StepsB.nil
    · intro ρ w a hw hG hf hd K hK
      obtain ⟨o1, o2, o3⟩ := hG
      exact dv_ hK hw (wn rfl) (r_load_agg ty28 hf rfl o1.cl rfl) rfl
    · intro ρ w a hw hG hf hd K hK
      obtain ⟨o1, o2, o3⟩ := hG
      exact dv_ hK hw (wn rfl) (r_fa fa28_4 hf rfl) rfl
    · intro ρ w a hw hG hf hd K hK
      obtain ⟨o1, o2, o3⟩ := hG
      obtain ⟨_, hf, rfl⟩ := got (hd 1 (by kernel_rfl)) hf
      exact dv_ hK hw (wn rfl) (r_load_cell ty26 hf rfl (o1.cl.at_ 4 _ rfl)) rfl
    · intro ρ w a hw hG hf hd K hK
      obtain ⟨o1, o2, o3⟩ := hG
      obtain ⟨_, hf, rfl⟩ := got (hd 2 (by kernel_rfl)) hf
      refine dc_ hK hw (wn rfl) (r_fn en76 hf rfl) (slices_Clone_76_ok (h0.now hw) hx12) fun v w' hΦ => ?_
      obtain ⟨hb, hΦ⟩ := hΦ
      obtain ⟨u13, rfl, hr14⟩ := hΦ
      have hE := Ext.new (ρ := ρ) 8 hb
      have o8 := Fresh.own (ρ := ρ) (B := w0.heap.size) hr14 hw.below.size 8
      exact ⟨_, hw.new 8 hb, hE, ex_ <| an_ rfl <| o8⟩
  intro ρ w a hw hG hf hd
  obtain ⟨o1, o2, o3⟩ := hG
  obtain ⟨_, hf, rfl⟩ := got (hd 0 (by decide)) hf
  obtain ⟨_, hf, ⟨u13, rfl, o8⟩⟩ := got (hd 3 (by decide)) hf
  obtain ⟨x15, hx16, hF⟩ := of_bind hF
  refine st_mfn hf rfl rfl (by decide) (r_fn en78 hf rfl) (impl_with_ok (a0 := a0) (by decide) hw h0 o8 hx16) fun a v w ρ hf hw hA hΦ => ?_
  obtain ⟨u17, rfl, o8⟩ := hΦ
  replace o1 := o1.adv hA (by decide)
  replace o2 := o2.adv hA (by decide)
  replace o3 := o3.adv hA (by decide)
  refine sk_ hf (r_store_w (cs' := [vI x15.p, vI x15.n, vI x15.m, vI x15.k, u17]) hw o1 (by decide) ty28 rfl rfl (one_sch o8.ro.one) hf rfl rfl rfl) fun a w hf hΦ => ?_
  obtain ⟨hw, hA, o1⟩ := hΦ
  replace o2 := o2.adv hA (by decide)
  replace o3 := o3.adv hA (by decide)
  replace o8 := o8.adv hA (by decide)
  refine c_nt <| c_seq <| c_seq <| c_region ?_
  refine s_ hf (r_move hf rfl) fun a hf => ?_
  refine s_ hf (r_len Try.underlying61 (h1.now hw) hf rfl) fun a hf => ?_
  refine s_ hf (r_move hf rfl) fun a hf => ?_
  refine c_nt ?_
  obtain ⟨ol18, ho18, hG18⟩ := of_bind hF
  clear hF
  refine c_block (c_loop (id := 2) (fun s => impl_WalkFlips_l18 a1 s.1 s.2.1 s.2.2.1 s.2.2.2.1 s.2.2.2.2.1 s.2.2.2.2.2) (fun (s : Int × Int × Int × Int × Int × (List Prod)) a w => match s with | (s19, s20, s21, s22, s23, s24) => ∃ ρ v25, Wd w0 ρ w ∧ Fr 66 a [(2, .pointer (some ((⟨g1, 0, none⟩ : Addr).add 0))), (4, .pointer (some ((⟨g2, 0, none⟩ : Addr).add 0))), (35, va1), (36, vI (a1.length : Int)), (37, vI s19)] ∧ Va ρ w 1 g1 28 ([vI s20, vI s21, vI s22, vI s23, v25]) ∧ Va ρ w 2 g2 28 ([vI 0, vI 0, vI 0, vI 0, (.slice none 0 0)]) ∧ O78 ρ w w0 3 (.slice none 0 0) ([] : List Prod) ∧ O78 ρ w w0 8 v25 s24) (fun (s : Int × Int × Int × Int × Int × (List Prod)) a w => match s with | (s19, s20, s21, s22, s23, s24) => ∃ ρ v25, Wd w0 ρ w ∧ Fr 66 a [(2, .pointer (some ((⟨g1, 0, none⟩ : Addr).add 0))), (4, .pointer (some ((⟨g2, 0, none⟩ : Addr).add 0)))] ∧ Va ρ w 1 g1 28 ([vI s20, vI s21, vI s22, vI s23, v25]) ∧ Va ρ w 2 g2 28 ([vI 0, vI 0, vI 0, vI 0, (.slice none 0 0)]) ∧ O78 ρ w w0 3 (.slice none 0 0) ([] : List Prod) ∧ O78 ρ w w0 8 v25 s24) ho18 ⟨_, _, hw, hf.sub ⟨rfl, rfl, rfl, rfl, rfl, trivial⟩, o1, o2, o3, o8⟩ ?_ ?_)
  · rintro ⟨s19, s20, s21, s22, s23, s24⟩ lr a w ⟨ρ, v25, hw, hf, o1, o2, o3, o8⟩ hF
    replace hF : impl_WalkFlips_l18 a1 s19 s20 s21 s22 s23 s24 = some lr := hF
    unfold impl_WalkFlips_l18 at hF
    refine c_seq <| c_region ?_
    refine s_ hf (r_lss hf rfl rfl) fun a hf => ?_
    refine c_nt <| c_seq ?_
    rcases of_ite hF with ⟨hb26, hF⟩ | ⟨hb26, hF⟩
    rotate_left
    · refine c_iff hf rfl hb26 <| c_exit <| x_then ?_
      obtain rfl := Option.some.inj hF
      exact Rnd.stops ⟨_, _, hw, hf.sub ⟨rfl, rfl, trivial⟩, o1, o2, o3, o8⟩
    refine c_ift hf rfl hb26 <| c_skip <| n_then <| c_seq <| c_block <| c_seq <| c_region ?_
    obtain ⟨hc27, hF⟩ := of_guard hF
    obtain ⟨ad28, c28, he28, hl28⟩ := Ro.el fI64 h1 0 hc27.1 hc27.2
    refine s_ hf (r_idx Try.underlying61 sz2 hf rfl ⟨_, he28⟩ rfl hc27.1 hc27.2) fun a hf => ?_
    refine s_ hf (r_load_cell ty2 hf rfl (hl28.below hw.below)) fun a hf => ?_
    refine s_ hf (r_assign hf rfl) fun a hf => ?_
    refine c_nt <| c_seq <| c_region ?_
    refine s_ hf (r_load_agg ty28 hf rfl o1.cl rfl) fun a hf => ?_
    obtain ⟨x29, hx30, hF⟩ := of_bind hF
    refine st_fn 9 hw hf rfl rfl (by decide) (r_fn en111 hf rfl) (impl_flips_ok (a0 := (⟨s20, s21, s22, s23, s24⟩ : Sch)) o8.ro hx30) fun a v w ρ hf hw hE hN hΦ => ?_
    obtain ⟨u31, rfl, hr32⟩ := hΦ
    replace o1 := o1.ext hE
    replace o2 := o2.ext hE
    replace o3 := o3.ext hE
    replace o8 := o8.ext hE
    have o9 := hN hr32
    refine s_ hf (r_assign hf rfl) fun a hf => ?_
    refine c_nt <| c_seq <| c_region ?_
    refine s_ hf (r_move hf rfl) fun a hf => ?_
    refine s_ hf (r_len Try.underlying44 o9.ro hf rfl) fun a hf => ?_
    refine s_ hf (r_gtr hf rfl rfl) fun a hf => ?_
    refine c_nt ?_
    rcases of_ite hF with ⟨hb33, hF⟩ | ⟨hb33, hF⟩
    rotate_left
    · refine c_iff hf rfl hb33 <| c_skip <| n_block <| n_then <| c_region ?_
      refine s_ hf (r_add hf rfl rfl) fun a hf => ?_
      refine s_ hf (r_move hf rfl) fun a hf => ?_
      refine c_nil ?_
      obtain rfl := Option.some.inj hF
      exact Rnd.goes ⟨_, _, hw, hf.sub ⟨rfl, rfl, rfl, rfl, rfl, trivial⟩, o1, o2, o3, o8⟩
    refine c_ift hf rfl hb33 <| c_seq <| c_region ?_
    refine s_ hf (r_move hf rfl) fun a hf => ?_
    refine s_ hf (r_move hf rfl) fun a hf => ?_
    refine s_ hf (r_move hf rfl) fun a hf => ?_
    refine s_ hf (r_len Try.underlying44 o9.ro hf rfl) fun a hf => ?_
    obtain ⟨hc34, hF⟩ := of_guard hF
    refine s_ hf (r_rem hf rfl rfl hc34) fun a hf => ?_
    obtain ⟨hc35, hF⟩ := of_guard hF
    obtain ⟨ad36, c36, u36, he36, hl36, ho36⟩ := Ro.el_row o9.ro hc35.1 hc35.2
    refine s_ hf (r_idx Try.underlying44 sz61 hf rfl ⟨_, he36⟩ rfl hc35.1 hc35.2) fun a hf => ?_
    refine s_ hf (r_load_cell ty61 hf rfl hl36) fun a hf => ?_
    refine s_ hf (r_assign hf rfl) fun a hf => ?_
    refine c_nt ?_
    obtain ⟨hc37, hF⟩ := of_guard hF
    obtain ⟨hc39, hF⟩ := of_guard hF
    obtain ⟨hc41, hF⟩ := of_guard hF
    replace hf : Fr 66 a [(2, .pointer (some ((⟨g1, 0, none⟩ : Addr).add 0))), (4, .pointer (some ((⟨g2, 0, none⟩ : Addr).add 0))), (11, u36), (35, va1), (36, vI (a1.length : Int)), (37, vI s19)] := hf.sub ⟨rfl, rfl, rfl, rfl, rfl, rfl, trivial⟩
    refine c_drawL (h := 10) mixed (by kernel_rfl) (by kernel_rfl) (fun ρ w => Va ρ w 1 g1 28 ([vI s20, vI s21, vI s22, vI s23, v25]) ∧ Va ρ w 2 g2 28 ([vI 0, vI 0, vI 0, vI 0, (.slice none 0 0)]) ∧ O78 ρ w w0 3 (.slice none 0 0) ([] : List Prod) ∧ O78 ρ w w0 8 v25 s24 ∧ Ro (kf fI64) w u36 (gl [] x29 ((gl 0 a1 s19).tmod (x29.length : Int)))) ?_ [fun ρ w v => .agg ([vI s20, vI s21, vI s22, vI s23, v25]).toArray = v, fun ρ w v => u36 = v, fun ρ w v => ∃ ad38, .pointer (some (ad38.add ((0 : Int).toNat * 1))) = v ∧ Cl w ad38 ((0 : Int).toNat * 1) (fI64.enc (gl 0 (gl [] x29 ((gl 0 a1 s19).tmod (x29.length : Int))) (0 : Int))), fun ρ w v => vI (gl 0 (gl [] x29 ((gl 0 a1 s19).tmod (x29.length : Int))) (0 : Int)) = v, fun ρ w v => u36 = v, fun ρ w v => ∃ ad40, .pointer (some (ad40.add ((1 : Int).toNat * 1))) = v ∧ Cl w ad40 ((1 : Int).toNat * 1) (fI64.enc (gl 0 (gl [] x29 ((gl 0 a1 s19).tmod (x29.length : Int))) (1 : Int))), fun ρ w v => vI (gl 0 (gl [] x29 ((gl 0 a1 s19).tmod (x29.length : Int))) (1 : Int)) = v, fun ρ w v => u36 = v, fun ρ w v => ∃ ad42, .pointer (some (ad42.add ((2 : Int).toNat * 1))) = v ∧ Cl w ad42 ((2 : Int).toNat * 1) (fI64.enc (gl 0 (gl [] x29 ((gl 0 a1 s19).tmod (x29.length : Int))) (2 : Int))), fun ρ w v => vI (gl 0 (gl [] x29 ((gl 0 a1 s19).tmod (x29.length : Int))) (2 : Int)) = v] ?_ hw ⟨o1, o2, o3, o8, ho36⟩ hf ?_ ?_
    · intro ρ w ρ' w' hE hG
      obtain ⟨o1, o2, o3, o8, ho36⟩ := hG
      exact ⟨o1.ext hE, o2.ext hE, o3.ext hE, o8.ext hE, ho36.ext hE⟩
    · exact LastsL.cons (fun _ _ _ _ _ _ h => h) <| LastsL.cons (fun _ _ _ _ _ _ h => h) <| LastsL.cons (fun _ _ _ _ _ hE h => by obtain ⟨ad38, h, hl38⟩ := h; exact ⟨_, h, hl38.ext hE⟩) <| LastsL.cons (fun _ _ _ _ _ _ h => h) <| LastsL.cons (fun _ _ _ _ _ _ h => h) <| LastsL.cons (fun _ _ _ _ _ hE h => by obtain ⟨ad40, h, hl40⟩ := h; exact ⟨_, h, hl40.ext hE⟩) <| LastsL.cons (fun _ _ _ _ _ _ h => h) <| LastsL.cons (fun _ _ _ _ _ _ h => h) <| LastsL.cons (fun _ _ _ _ _ hE h => by obtain ⟨ad42, h, hl42⟩ := h; exact ⟨_, h, hl42.ext hE⟩) <| LastsL.cons (fun _ _ _ _ _ _ h => h) <| LastsL.nil
    · refine StepsB.cons ?_ <| StepsB.cons ?_ <| StepsB.cons ?_ <| StepsB.cons ?_ <| StepsB.cons ?_ <| StepsB.cons ?_ <| StepsB.cons ?_ <| StepsB.cons ?_ <| StepsB.cons ?_ <| StepsB.cons ?_ <| StepsB.nil
      · intro ρ w a hw hG hf hd K hK
        obtain ⟨o1, o2, o3, o8, ho36⟩ := hG
        exact dv_ hK hw (wn rfl) (r_load_agg ty28 hf rfl o1.cl rfl) rfl
      · intro ρ w a hw hG hf hd K hK
        obtain ⟨o1, o2, o3, o8, ho36⟩ := hG
        exact dv_ hK hw (wn rfl) (r_move hf rfl) rfl
      · intro ρ w a hw hG hf hd K hK
        obtain ⟨o1, o2, o3, o8, ho36⟩ := hG
        obtain ⟨_, hf, rfl⟩ := got (hd 1 (by kernel_rfl)) hf
        obtain ⟨ad38, c38, he38, hl38⟩ := Ro.el fI64 ho36 0 hc37.1 hc37.2
        exact dv_ hK hw (wn rfl) (r_idx Try.underlying61 sz2 hf rfl ⟨_, he38⟩ rfl hc37.1 hc37.2) (ex_ <| an_ rfl <| hl38)
      · intro ρ w a hw hG hf hd K hK
        obtain ⟨o1, o2, o3, o8, ho36⟩ := hG
        obtain ⟨_, hf, ⟨ad38, rfl, hl38⟩⟩ := got (hd 2 (by kernel_rfl)) hf
        exact dv_ hK hw (wn rfl) (r_load_cell ty2 hf rfl hl38) rfl
      · intro ρ w a hw hG hf hd K hK
        obtain ⟨o1, o2, o3, o8, ho36⟩ := hG
        exact dv_ hK hw (wn rfl) (r_move hf rfl) rfl
      · intro ρ w a hw hG hf hd K hK
        obtain ⟨o1, o2, o3, o8, ho36⟩ := hG
        obtain ⟨_, hf, rfl⟩ := got (hd 4 (by kernel_rfl)) hf
        obtain ⟨ad40, c40, he40, hl40⟩ := Ro.el fI64 ho36 0 hc39.1 hc39.2
        exact dv_ hK hw (wn rfl) (r_idx Try.underlying61 sz2 hf rfl ⟨_, he40⟩ rfl hc39.1 hc39.2) (ex_ <| an_ rfl <| hl40)
      · intro ρ w a hw hG hf hd K hK
        obtain ⟨o1, o2, o3, o8, ho36⟩ := hG
        obtain ⟨_, hf, ⟨ad40, rfl, hl40⟩⟩ := got (hd 5 (by kernel_rfl)) hf
        exact dv_ hK hw (wn rfl) (r_load_cell ty2 hf rfl hl40) rfl
      · intro ρ w a hw hG hf hd K hK
        obtain ⟨o1, o2, o3, o8, ho36⟩ := hG
        exact dv_ hK hw (wn rfl) (r_move hf rfl) rfl
      · intro ρ w a hw hG hf hd K hK
        obtain ⟨o1, o2, o3, o8, ho36⟩ := hG
        obtain ⟨_, hf, rfl⟩ := got (hd 7 (by kernel_rfl)) hf
        obtain ⟨ad42, c42, he42, hl42⟩ := Ro.el fI64 ho36 0 hc41.1 hc41.2
        exact dv_ hK hw (wn rfl) (r_idx Try.underlying61 sz2 hf rfl ⟨_, he42⟩ rfl hc41.1 hc41.2) (ex_ <| an_ rfl <| hl42)
      · intro ρ w a hw hG hf hd K hK
        obtain ⟨o1, o2, o3, o8, ho36⟩ := hG
        obtain ⟨_, hf, ⟨ad42, rfl, hl42⟩⟩ := got (hd 8 (by kernel_rfl)) hf
        exact dv_ hK hw (wn rfl) (r_load_cell ty2 hf rfl hl42) rfl
    intro ρ w a hw hG hf hd
    obtain ⟨o1, o2, o3, o8, ho36⟩ := hG
    obtain ⟨_, hf, rfl⟩ := got (hd 0 (by decide)) hf
    obtain ⟨_, hf, rfl⟩ := got (hd 3 (by decide)) hf
    obtain ⟨_, hf, rfl⟩ := got (hd 6 (by decide)) hf
    obtain ⟨_, hf, rfl⟩ := got (hd 9 (by decide)) hf
    obtain ⟨x43, hx44, hF⟩ := of_bind hF
    refine st_fn 15 hw hf rfl rfl (by decide) (r_fn en90 hf rfl) (impl_flip_ok (a0 := (⟨s20, s21, s22, s23, s24⟩ : Sch)) o8.ro hx44) fun a v w ρ hf hw hE hN hΦ => ?_
    obtain ⟨u45, rfl, hr46⟩ := hΦ
    replace o1 := o1.ext hE
    replace o2 := o2.ext hE
    replace o3 := o3.ext hE
    replace o8 := o8.ext hE
    replace ho36 := ho36.ext hE
    have o15 := hN hr46
    refine sk_ hf (r_store_w (cs' := [vI x43.p, vI x43.n, vI x43.m, vI x43.k, u45]) hw o1 (by decide) ty28 rfl rfl (one_sch o15.ro.one) hf rfl rfl rfl) fun a w hf hΦ => ?_
    obtain ⟨hw, hA, o1⟩ := hΦ
    replace o2 := o2.adv hA (by decide)
    replace o3 := o3.adv hA (by decide)
    replace o8 := o8.adv hA (by decide)
    replace o15 := o15.adv hA (by decide)
    refine c_nil <| n_block <| n_then <| c_region ?_
    refine s_ hf (r_add hf rfl rfl) fun a hf => ?_
    refine s_ hf (r_move hf rfl) fun a hf => ?_
    refine c_nil ?_
    obtain rfl := Option.some.inj hF
    replace o1 := o1.tr (Tr.relab (j := 15) (b := 8) (by decide))
    replace o2 := o2.tr (Tr.relab (j := 15) (b := 8) (by decide))
    replace o3 := o3.tr (Tr.relab (j := 15) (b := 8) (by decide))
    replace o15 := o15.relab 8
    replace hw := hw.relab (j := 15) (by decide) 8
    exact Rnd.goes ⟨_, _, hw, hf.sub ⟨rfl, rfl, rfl, rfl, rfl, trivial⟩, o1, o2, o3, o15⟩
  rintro ⟨s19, s20, s21, s22, s23, s24⟩ a w hs ⟨ρ, v25, hw, hf, o1, o2, o3, o8⟩
  subst hs
  have hF := hG18
  dsimp only at hF
  refine x_block <| n_then <| c_seq <| c_region ?_
  refine s_ hf (r_load_agg ty28 hf rfl o1.cl rfl) fun a hf => ?_
  refine sk_ hf (r_store_w (cs' := [vI s20, vI s21, vI s22, vI s23, v25]) hw o2 (by decide) ty28 rfl rfl (one_sch o8.ro.one) hf rfl rfl rfl) fun a w hf hΦ => ?_
  obtain ⟨hw, hA, o2⟩ := hΦ
  replace o1 := o1.adv hA (by decide)
  replace o3 := o3.adv hA (by decide)
  replace o8 := o8.adv hA (by decide)
  refine s_ hf (r_assign hf rfl) fun a hf => ?_
  refine c_nt <| c_retc ?_
  obtain rfl := Option.some.inj hF
  refine c_ret hf (res_ct Try.results47 ty28 hf rfl o2.cl rfl rfl) ?_
  exact ⟨_, rfl, hw.below, ⟨_, rfl, o8.out⟩⟩
/-! f46 -/
noncomputable def laws_toInt64S_l2 (a0 : List Int) (s3 : Int) (s4 : List Int) : Option (LR (Int × (List Int)) (List Int)) :=
  if (decide (s3 < (a0.length : Int))) = true then (if 0 ≤ s3 ∧ s3 < (a0.length : Int) then (if 0 ≤ s3 ∧ s3 < (s4.length : Int) then (some (.next (w64 (s3 + 1), (s4.set s3.toNat (gl 0 a0 s3))))) else none) else none) else (some (.stop (s3, s4)))
noncomputable def laws_toInt64S (a0 : List Int) : Option (List Int) :=
  if 0 ≤ (a0.length : Int) ∧ (a0.length : Int) * 8 ≤ 281474976710656 then ((iter (fun s => laws_toInt64S_l2 a0 s.1 s.2) (0, (List.replicate (a0.length : Int).toNat (0 : Int)))).bind fun o => match o with | .stop (s3, s4) => (some (s4)) | .ret r => some r | .next _ => none) else none
theorem laws_toInt64S_ok {w0 : World} {a0 : List Int} {va0 : Value} (h0 : Ro (kf fI64) w0 va0 a0) {r : List Int} (hF : laws_toInt64S a0 = some r) :
    Calls Try.prog 46 [va0].toArray w0 fun e w => ∃ v, e = .returned v ∧ Below w0.heap.size w0 w ∧ ∃ u0, u0 = v ∧ Fresh (kf fI64) 2 w0 w u0 r := by
  refine calls_of (k := 22) Try.func46 rfl rfl (Nat.le_of_ble_eq_true rfl) fun a hf => ?_
  replace hf : Fr 22 a [(0, va0)] := hf
  refine c_start fun w ρ hw => ?_
  unfold laws_toInt64S at hF
  refine c_seq <| c_region ?_
  have o1 : Ow (kf fI64) 2 ρ w w0.heap.size 1 (.slice none 0 0) [] := Ow.nil _ _ _ _ _ _
  refine s_ hf (r_assign hf rfl) fun a hf => ?_
  refine c_nt <| c_seq <| c_region ?_
  refine s_ hf (r_move hf rfl) fun a hf => ?_
  refine s_ hf (r_len Try.underlying61 (h0.now hw) hf rfl) fun a hf => ?_
  obtain ⟨hc1, hF⟩ := of_guard hF
  refine sx_ hf (r_make (d := fI64) (z0 := 0) 2 Try.underlying61 el2 rfl hw hf rfl hc1.1 (mk_le hc1.1 hc1.2)) fun a v2 w hf hΦ => ?_
  obtain ⟨ρ, hw, hE, o2⟩ := hΦ
  replace o1 := o1.ext hE
  refine s_ hf (r_assign hf rfl) fun a hf => ?_
  refine c_nt <| c_seq <| c_seq <| c_region ?_
  refine s_ hf (r_assign hf rfl) fun a hf => ?_
  refine c_nt ?_
  obtain ⟨ol2, ho2, hG2⟩ := of_bind hF
  clear hF
  refine c_block (c_loop (id := 0) (fun s => laws_toInt64S_l2 a0 s.1 s.2) (fun (s : Int × (List Int)) a w => match s with | (s3, s4) => ∃ ρ, Wd w0 ρ w ∧ Fr 22 a [(0, va0), (3, v2), (4, vI s3)] ∧ O2 ρ w w0 2 v2 s4) (fun (s : Int × (List Int)) a w => match s with | (s3, s4) => ∃ ρ, Wd w0 ρ w ∧ Fr 22 a [(3, v2)] ∧ O2 ρ w w0 2 v2 s4) ho2 ⟨_, hw, hf.sub ⟨rfl, rfl, rfl, trivial⟩, o2⟩ ?_ ?_)
  · rintro ⟨s3, s4⟩ lr a w ⟨ρ, hw, hf, o2⟩ hF
    replace hF : laws_toInt64S_l2 a0 s3 s4 = some lr := hF
    unfold laws_toInt64S_l2 at hF
    refine c_seq <| c_seq <| c_region ?_
    refine s_ hf (r_move hf rfl) fun a hf => ?_
    refine s_ hf (r_move hf rfl) fun a hf => ?_
    refine s_ hf (r_len Try.underlying61 (h0.now hw) hf rfl) fun a hf => ?_
    refine s_ hf (r_lss hf rfl rfl) fun a hf => ?_
    refine c_nt ?_
    rcases of_ite hF with ⟨hb5, hF⟩ | ⟨hb5, hF⟩
    rotate_left
    · refine c_iff hf rfl hb5 <| c_exit <| x_then ?_
      obtain rfl := Option.some.inj hF
      exact Rnd.stops ⟨_, hw, hf.sub ⟨rfl, trivial⟩, o2⟩
    refine c_ift hf rfl hb5 <| c_skip <| n_then <| c_seq <| c_block <| c_region ?_
    refine s_ hf (r_move hf rfl) fun a hf => ?_
    refine s_ hf (r_move hf rfl) fun a hf => ?_
    refine s_ hf (r_move hf rfl) fun a hf => ?_
    refine s_ hf (r_move hf rfl) fun a hf => ?_
    obtain ⟨hc6, hF⟩ := of_guard hF
    obtain ⟨ad7, c7, he7, hl7⟩ := Ro.el fI64 h0 0 hc6.1 hc6.2
    refine s_ hf (r_idx Try.underlying61 sz2 hf rfl ⟨_, he7⟩ rfl hc6.1 hc6.2) fun a hf => ?_
    refine s_ hf (r_load_cell ty2 hf rfl (hl7.below hw.below)) fun a hf => ?_
    obtain ⟨hc8, hF⟩ := of_guard hF
    obtain ⟨ad9, hl9⟩ := Ow.ce (d := fI64) o2 0 hc8.1 hc8.2
    refine s_ hf (r_idx Try.underlying61 sz2 hf rfl hl9.at_ rfl hc8.1 hc8.2) fun a hf => ?_
    refine sk_ hf (r_store_ec (b := gl 0 a0 s3) 0 hw (by decide) o2 hc8.1 hc8.2 (Lens.id _) hl9.at_ ty2 (by first | rfl | exact Nat.add_assoc _ _ _ | (simp only [Nat.add_assoc]; rfl)) hf rfl rfl rfl) fun a w hf hΦ => ?_
    obtain ⟨hw, hA, o2⟩ := hΦ
    refine c_nil <| n_block <| n_then <| c_region ?_
    refine s_ hf (r_move hf rfl) fun a hf => ?_
    refine s_ hf (r_add hf rfl rfl) fun a hf => ?_
    refine s_ hf (r_assign hf rfl) fun a hf => ?_
    refine c_nil ?_
    obtain rfl := Option.some.inj hF
    exact Rnd.goes ⟨_, hw, hf.sub ⟨rfl, rfl, rfl, trivial⟩, o2⟩
  rintro ⟨s3, s4⟩ a w hs ⟨ρ, hw, hf, o2⟩
  subst hs
  have hF := hG2
  dsimp only at hF
  refine x_block <| n_then <| c_seq <| c_region ?_
  refine s_ hf (r_move hf rfl) fun a hf => ?_
  refine s_ hf (r_assign hf rfl) fun a hf => ?_
  refine c_nt <| c_retc ?_
  obtain rfl := Option.some.inj hF
  refine c_ret hf (res_tmp Try.results46 hf rfl) ?_
  exact ⟨_, rfl, hw.below, ⟨_, rfl, o2.out⟩⟩
/-! f48 -/
noncomputable def laws_eqInt64S_l2 (a0 : List Int) (a1 : List Int) (s3 : Int) : Option (LR Int Bool) :=
  if (decide (s3 < (a0.length : Int))) = true then (if 0 ≤ s3 ∧ s3 < (a0.length : Int) then (if 0 ≤ s3 ∧ s3 < (a1.length : Int) then (if (decide ((gl 0 a0 s3) ≠ (gl 0 a1 s3))) = true then (some (.ret false)) else (some (.next (w64 (s3 + 1))))) else none) else none) else (some (.stop s3))
noncomputable def laws_eqInt64S (a0 : List Int) (a1 : List Int) : Option Bool :=
  if (decide ((a0.length : Int) ≠ (a1.length : Int))) = true then (some (false)) else ((iter (fun s => laws_eqInt64S_l2 a0 a1 s) 0).bind fun o => match o with | .stop s3 => (some (true)) | .ret r => some r | .next _ => none)
theorem laws_eqInt64S_ok {w0 : World} {a0 : List Int} {a1 : List Int} {va0 : Value} {va1 : Value} (h0 : Ro (kf fI64) w0 va0 a0) (h1 : Ro (kf fI64) w0 va1 a1) {r : Bool} (hF : laws_eqInt64S a0 a1 = some r) :
    Calls Try.prog 48 [va0, va1].toArray w0 fun e w => ∃ v, e = .returned v ∧ Below w0.heap.size w0 w ∧ .bool r = v := by
  refine calls_of (k := 26) Try.func48 rfl rfl (Nat.le_of_ble_eq_true rfl) fun a hf => ?_
  replace hf : Fr 26 a [(0, va0), (1, va1)] := hf
  refine c_start fun w ρ hw => ?_
  unfold laws_eqInt64S at hF
  refine c_seq <| c_region ?_
  refine s_ hf (r_assign hf rfl) fun a hf => ?_
  refine c_nt <| c_seq <| c_seq <| c_region ?_
  refine s_ hf (r_move hf rfl) fun a hf => ?_
  refine s_ hf (r_len Try.underlying61 (h0.now hw) hf rfl) fun a hf => ?_
  refine s_ hf (r_move hf rfl) fun a hf => ?_
  refine s_ hf (r_len Try.underlying61 (h1.now hw) hf rfl) fun a hf => ?_
  refine s_ hf (r_neq hf rfl rfl) fun a hf => ?_
  refine c_nt ?_
  rcases of_ite hF with ⟨hb1, hF⟩ | ⟨hb1, hF⟩
  · refine c_ift hf rfl hb1 <| c_seq <| c_region ?_
    refine s_ hf (r_assign hf rfl) fun a hf => ?_
    refine c_nt <| c_retc ?_
    obtain rfl := Option.some.inj hF
    refine r_then <| c_ret hf (res_tmp Try.results48 hf rfl) ?_
    exact ⟨_, rfl, hw.below, rfl⟩
  refine c_iff hf rfl hb1 <| c_skip <| n_then <| c_seq <| c_seq <| c_region ?_
  refine s_ hf (r_assign hf rfl) fun a hf => ?_
  refine c_nt ?_
  obtain ⟨ol2, ho2, hG2⟩ := of_bind hF
  clear hF
  refine c_block (c_loop (id := 0) (fun s => laws_eqInt64S_l2 a0 a1 s) (fun (s3 : Int) a w => ∃ ρ, Wd w0 ρ w ∧ Fr 26 a [(0, va0), (1, va1), (5, vI s3)]) (fun (s3 : Int) a w => ∃ ρ, Wd w0 ρ w ∧ Fr 26 a []) ho2 ⟨_, hw, hf.sub ⟨rfl, rfl, rfl, trivial⟩⟩ ?_ ?_)
  · rintro s3 lr a w ⟨ρ, hw, hf⟩ hF
    replace hF : laws_eqInt64S_l2 a0 a1 s3 = some lr := hF
    unfold laws_eqInt64S_l2 at hF
    refine c_seq <| c_seq <| c_region ?_
    refine s_ hf (r_move hf rfl) fun a hf => ?_
    refine s_ hf (r_move hf rfl) fun a hf => ?_
    refine s_ hf (r_len Try.underlying61 (h0.now hw) hf rfl) fun a hf => ?_
    refine s_ hf (r_lss hf rfl rfl) fun a hf => ?_
    refine c_nt ?_
    rcases of_ite hF with ⟨hb4, hF⟩ | ⟨hb4, hF⟩
    rotate_left
    · refine c_iff hf rfl hb4 <| c_exit <| x_then ?_
      obtain rfl := Option.some.inj hF
      exact Rnd.stops ⟨_, hw, hf.sub trivial⟩
    refine c_ift hf rfl hb4 <| c_skip <| n_then <| c_seq <| c_block <| c_seq ?_
    obtain ⟨hc5, hF⟩ := of_guard hF
    obtain ⟨ad6, c6, he6, hl6⟩ := Ro.el fI64 h0 0 hc5.1 hc5.2
    obtain ⟨hc7, hF⟩ := of_guard hF
    obtain ⟨ad8, c8, he8, hl8⟩ := Ro.el fI64 h1 0 hc7.1 hc7.2
    replace hf : Fr 26 a [(0, va0), (1, va1), (5, vI s3)] := hf.sub ⟨rfl, rfl, rfl, trivial⟩
    refine c_drawL (h := 8) mixed (by kernel_rfl) (by kernel_rfl) (fun ρ w => True) ?_ [fun ρ w v => va0 = v, fun ρ w v => vI s3 = v, fun ρ w v => .pointer (some (ad6.add (s3.toNat * 1))) = v, fun ρ w v => vI (gl 0 a0 s3) = v, fun ρ w v => va1 = v, fun ρ w v => vI s3 = v, fun ρ w v => .pointer (some (ad8.add (s3.toNat * 1))) = v, fun ρ w v => vI (gl 0 a1 s3) = v] ?_ hw trivial hf ?_ ?_
    · intro ρ w ρ' w' hE hG
      skip
      exact trivial
    · exact LastsL.cons (fun _ _ _ _ _ _ h => h) <| LastsL.cons (fun _ _ _ _ _ _ h => h) <| LastsL.cons (fun _ _ _ _ _ _ h => h) <| LastsL.cons (fun _ _ _ _ _ _ h => h) <| LastsL.cons (fun _ _ _ _ _ _ h => h) <| LastsL.cons (fun _ _ _ _ _ _ h => h) <| LastsL.cons (fun _ _ _ _ _ _ h => h) <| LastsL.cons (fun _ _ _ _ _ _ h => h) <| LastsL.nil
    · refine StepsB.cons ?_ <| StepsB.cons ?_ <| StepsB.cons ?_ <| StepsB.cons ?_ <| StepsB.cons ?_ <| StepsB.cons ?_ <| StepsB.cons ?_ <| StepsB.cons ?_ <| StepsB.nil
      · intro ρ w a hw hG hf hd K hK
        exact dv_ hK hw (wn rfl) (r_move hf rfl) rfl
      · intro ρ w a hw hG hf hd K hK
        exact dv_ hK hw (wn rfl) (r_move hf rfl) rfl
      · intro ρ w a hw hG hf hd K hK
        obtain ⟨_, hf, rfl⟩ := got (hd 0 (by kernel_rfl)) hf
        obtain ⟨_, hf, rfl⟩ := got (hd 1 (by kernel_rfl)) hf
        exact dv_ hK hw (wn rfl) (r_idx Try.underlying61 sz2 hf rfl ⟨_, he6⟩ rfl hc5.1 hc5.2) rfl
      · intro ρ w a hw hG hf hd K hK
        obtain ⟨_, hf, rfl⟩ := got (hd 2 (by kernel_rfl)) hf
        exact dv_ hK hw (wn rfl) (r_load_cell ty2 hf rfl (hl6.below hw.below)) rfl
      · intro ρ w a hw hG hf hd K hK
        exact dv_ hK hw (wn rfl) (r_move hf rfl) rfl
      · intro ρ w a hw hG hf hd K hK
        exact dv_ hK hw (wn rfl) (r_move hf rfl) rfl
      · intro ρ w a hw hG hf hd K hK
        obtain ⟨_, hf, rfl⟩ := got (hd 4 (by kernel_rfl)) hf
        obtain ⟨_, hf, rfl⟩ := got (hd 5 (by kernel_rfl)) hf
        exact dv_ hK hw (wn rfl) (r_idx Try.underlying61 sz2 hf rfl ⟨_, he8⟩ rfl hc7.1 hc7.2) rfl
      · intro ρ w a hw hG hf hd K hK
        obtain ⟨_, hf, rfl⟩ := got (hd 6 (by kernel_rfl)) hf
        exact dv_ hK hw (wn rfl) (r_load_cell ty2 hf rfl (hl8.below hw.below)) rfl
    intro ρ w a hw hG hf hd
    obtain ⟨_, hf, rfl⟩ := got (hd 3 (by decide)) hf
    obtain ⟨_, hf, rfl⟩ := got (hd 7 (by decide)) hf
    refine s_ hf (r_neq hf rfl rfl) fun a hf => ?_
    refine c_nt ?_
    rcases of_ite hF with ⟨hb9, hF⟩ | ⟨hb9, hF⟩
    rotate_left
    · refine c_iff hf rfl hb9 <| c_skip <| n_block <| n_then <| c_region ?_
      refine s_ hf (r_move hf rfl) fun a hf => ?_
      refine s_ hf (r_add hf rfl rfl) fun a hf => ?_
      refine s_ hf (r_assign hf rfl) fun a hf => ?_
      refine c_nil ?_
      obtain rfl := Option.some.inj hF
      exact Rnd.goes ⟨_, hw, hf.sub ⟨rfl, rfl, rfl, trivial⟩⟩
    refine c_ift hf rfl hb9 <| c_seq <| c_region ?_
    refine s_ hf (r_assign hf rfl) fun a hf => ?_
    refine c_nt <| c_retc ?_
    obtain rfl := Option.some.inj hF
    refine r_block <| r_then ?_
    refine Rnd.rets fun ho => ?_
    subst ho
    have hF := hG2
    dsimp only at hF
    obtain rfl := Option.some.inj hF
    refine r_block <| r_then <| c_ret hf (res_tmp Try.results48 hf rfl) ?_
    exact ⟨_, rfl, hw.below, rfl⟩
  rintro s3 a w hs ⟨ρ, hw, hf⟩
  subst hs
  have hF := hG2
  dsimp only at hF
  refine x_block <| n_then <| c_seq <| c_region ?_
  refine s_ hf (r_assign hf rfl) fun a hf => ?_
  refine c_nt <| c_retc ?_
  obtain rfl := Option.some.inj hF
  refine c_ret hf (res_tmp Try.results48 hf rfl) ?_
  exact ⟨_, rfl, hw.below, rfl⟩
/-! f49 -/
noncomputable def laws_markInt64S_l1  (s2 : Int) (s3 : Int) (s4 : List Int) : Option (LR (Int × Int × (List Int)) (Int × (List Int))) :=
  if (decide (s3 < (s4.length : Int))) = true then (if 0 ≤ s3 ∧ s3 < (s4.length : Int) then (some (.next (w64 (s2 + 1), w64 (s3 + 1), (s4.set s3.toNat s2)))) else none) else (some (.stop (s2, s3, s4)))
noncomputable def laws_markInt64S (a0 : List Int) (a1 : Int) : Option (Int × (List Int)) :=
  (iter (fun s => laws_markInt64S_l1  s.1 s.2.1 s.2.2) (a1, 0, a0)).bind fun o => match o with | .stop (s2, s3, s4) => (some ((s2, s4))) | .ret r => some r | .next _ => none
theorem laws_markInt64S_ok {w0 ws : World} {ρ0 : Nat → Nat} {i : Nat} (hi : i ≠ 0) (hW : Wd w0 ρ0 ws) {a0 : List Int} {a1 : Int} {va0 : Value} (h0 : Ow (kf fI64) 2 ρ0 ws w0.heap.size i va0 a0) {r : Int × (List Int)} (hF : laws_markInt64S a0 a1 = some r) :
    Calls Try.prog 49 [va0, vI a1].toArray ws fun e w => ∃ v, e = .returned v ∧ ∃ ρ', Wd w0 ρ' w ∧ Adv i ρ0 ws ρ' w ∧ .int .i64 r.1 = v ∧ Ow (kf fI64) 2 ρ' w w0.heap.size i va0 r.2 := by
  refine calls_of (k := 19) Try.func49 rfl rfl (Nat.le_of_ble_eq_true rfl) fun a hf => ?_
  replace hf : Fr 19 a [(0, va0), (1, vI a1)] := hf
  refine c_startm hi hW h0 fun w ρ hw oA o1 => ?_
  unfold laws_markInt64S at hF
  refine c_seq <| c_region ?_
  refine s_ hf (r_assign hf rfl) fun a hf => ?_
  refine c_nt <| c_seq <| c_seq <| c_region ?_
  refine s_ hf (r_assign hf rfl) fun a hf => ?_
  refine c_nt ?_
  obtain ⟨ol1, ho1, hG1⟩ := of_bind hF
  clear hF
  refine c_block (c_loop (id := 0) (fun s => laws_markInt64S_l1  s.1 s.2.1 s.2.2) (fun (s : Int × Int × (List Int)) a w => match s with | (s2, s3, s4) => ∃ ρ, Wd w0 ρ w ∧ Fr 19 a [(0, va0), (1, vI s2), (5, vI s3)] ∧ Old (oneOf ρ0 i) ws ρ w ∧ O2 ρ w w0 1 va0 s4) (fun (s : Int × Int × (List Int)) a w => match s with | (s2, s3, s4) => ∃ ρ, Wd w0 ρ w ∧ Fr 19 a [(1, vI s2)] ∧ Old (oneOf ρ0 i) ws ρ w ∧ O2 ρ w w0 1 va0 s4) ho1 ⟨_, hw, hf.sub ⟨rfl, rfl, rfl, trivial⟩, oA, o1⟩ ?_ ?_)
  · rintro ⟨s2, s3, s4⟩ lr a w ⟨ρ, hw, hf, oA, o1⟩ hF
    replace hF : laws_markInt64S_l1  s2 s3 s4 = some lr := hF
    unfold laws_markInt64S_l1 at hF
    refine c_seq <| c_seq <| c_region ?_
    refine s_ hf (r_move hf rfl) fun a hf => ?_
    refine s_ hf (r_move hf rfl) fun a hf => ?_
    refine s_ hf (r_len Try.underlying61 o1.ro hf rfl) fun a hf => ?_
    refine s_ hf (r_lss hf rfl rfl) fun a hf => ?_
    refine c_nt ?_
    rcases of_ite hF with ⟨hb5, hF⟩ | ⟨hb5, hF⟩
    rotate_left
    · refine c_iff hf rfl hb5 <| c_exit <| x_then ?_
      obtain rfl := Option.some.inj hF
      exact Rnd.stops ⟨_, hw, hf.sub ⟨rfl, trivial⟩, oA, o1⟩
    refine c_ift hf rfl hb5 <| c_skip <| n_then <| c_seq <| c_block <| c_seq <| c_region ?_
    refine s_ hf (r_move hf rfl) fun a hf => ?_
    refine s_ hf (r_move hf rfl) fun a hf => ?_
    refine s_ hf (r_move hf rfl) fun a hf => ?_
    obtain ⟨hc6, hF⟩ := of_guard hF
    obtain ⟨ad7, hl7⟩ := Ow.ce (d := fI64) o1 0 hc6.1 hc6.2
    refine s_ hf (r_idx Try.underlying61 sz2 hf rfl hl7.at_ rfl hc6.1 hc6.2) fun a hf => ?_
    refine sk_ hf (r_store_ec (b := s2) 0 hw (by decide) o1 hc6.1 hc6.2 (Lens.id _) hl7.at_ ty2 (by first | rfl | exact Nat.add_assoc _ _ _ | (simp only [Nat.add_assoc]; rfl)) hf rfl rfl rfl) fun a w hf hΦ => ?_
    obtain ⟨hw, hA, o1⟩ := hΦ
    replace oA := oA.adv hA (by decide)
    refine c_nt <| c_region ?_
    refine s_ hf (r_move hf rfl) fun a hf => ?_
    refine s_ hf (r_add hf rfl rfl) fun a hf => ?_
    refine s_ hf (r_assign hf rfl) fun a hf => ?_
    refine c_nil <| n_block <| n_then <| c_region ?_
    refine s_ hf (r_move hf rfl) fun a hf => ?_
    refine s_ hf (r_add hf rfl rfl) fun a hf => ?_
    refine s_ hf (r_assign hf rfl) fun a hf => ?_
    refine c_nil ?_
    obtain rfl := Option.some.inj hF
    exact Rnd.goes ⟨_, hw, hf.sub ⟨rfl, rfl, rfl, trivial⟩, oA, o1⟩
  rintro ⟨s2, s3, s4⟩ a w hs ⟨ρ, hw, hf, oA, o1⟩
  subst hs
  have hF := hG1
  dsimp only at hF
  refine x_block <| n_then <| c_seq <| c_region ?_
  refine s_ hf (r_move hf rfl) fun a hf => ?_
  refine s_ hf (r_assign hf rfl) fun a hf => ?_
  refine c_nt <| c_retc ?_
  obtain rfl := Option.some.inj hF
  refine c_ret hf (res_tmp Try.results49 hf rfl) ?_
  exact ⟨_, rfl, _, m_wd hW hw oA, m_adv oA, rfl, m_ow oA o1⟩
/-! f93 -/
noncomputable def laws_heldInt64S_l1 (a0 : List Int) (s2 : Int) (s3 : Int) : Option (LR (Int × Int) Int) :=
  if (decide (s3 < (a0.length : Int))) = true then (if 0 ≤ s3 ∧ s3 < (a0.length : Int) then (if (decide ((gl 0 a0 s3) ≠ s2)) = true then (some (.ret (-1))) else (some (.next (w64 (s2 + 1), w64 (s3 + 1))))) else none) else (some (.stop (s2, s3)))
noncomputable def laws_heldInt64S (a0 : List Int) (a1 : Int) : Option Int :=
  (iter (fun s => laws_heldInt64S_l1 a0 s.1 s.2) (a1, 0)).bind fun o => match o with | .stop (s2, s3) => (some (s2)) | .ret r => some r | .next _ => none
theorem laws_heldInt64S_ok {w0 : World} {a0 : List Int} {a1 : Int} {va0 : Value} (h0 : Ro (kf fI64) w0 va0 a0) {r : Int} (hF : laws_heldInt64S a0 a1 = some r) :
    Calls Try.prog 93 [va0, vI a1].toArray w0 fun e w => ∃ v, e = .returned v ∧ Below w0.heap.size w0 w ∧ .int .i64 r = v := by
  refine calls_of (k := 21) Try.func93 rfl rfl (Nat.le_of_ble_eq_true rfl) fun a hf => ?_
  replace hf : Fr 21 a [(0, va0), (1, vI a1)] := hf
  refine c_start fun w ρ hw => ?_
  unfold laws_heldInt64S at hF
  refine c_seq <| c_region ?_
  refine s_ hf (r_assign hf rfl) fun a hf => ?_
  refine c_nt <| c_seq <| c_seq <| c_region ?_
  refine s_ hf (r_assign hf rfl) fun a hf => ?_
  refine c_nt ?_
  obtain ⟨ol1, ho1, hG1⟩ := of_bind hF
  clear hF
  refine c_block (c_loop (id := 0) (fun s => laws_heldInt64S_l1 a0 s.1 s.2) (fun (s : Int × Int) a w => match s with | (s2, s3) => ∃ ρ, Wd w0 ρ w ∧ Fr 21 a [(0, va0), (1, vI s2), (5, vI s3)]) (fun (s : Int × Int) a w => match s with | (s2, s3) => ∃ ρ, Wd w0 ρ w ∧ Fr 21 a [(1, vI s2)]) ho1 ⟨_, hw, hf.sub ⟨rfl, rfl, rfl, trivial⟩⟩ ?_ ?_)
  · rintro ⟨s2, s3⟩ lr a w ⟨ρ, hw, hf⟩ hF
    replace hF : laws_heldInt64S_l1 a0 s2 s3 = some lr := hF
    unfold laws_heldInt64S_l1 at hF
    refine c_seq <| c_seq <| c_region ?_
    refine s_ hf (r_move hf rfl) fun a hf => ?_
    refine s_ hf (r_move hf rfl) fun a hf => ?_
    refine s_ hf (r_len Try.underlying61 (h0.now hw) hf rfl) fun a hf => ?_
    refine s_ hf (r_lss hf rfl rfl) fun a hf => ?_
    refine c_nt ?_
    rcases of_ite hF with ⟨hb4, hF⟩ | ⟨hb4, hF⟩
    rotate_left
    · refine c_iff hf rfl hb4 <| c_exit <| x_then ?_
      obtain rfl := Option.some.inj hF
      exact Rnd.stops ⟨_, hw, hf.sub ⟨rfl, trivial⟩⟩
    refine c_ift hf rfl hb4 <| c_skip <| n_then <| c_seq <| c_block <| c_seq <| c_seq <| c_region ?_
    refine s_ hf (r_move hf rfl) fun a hf => ?_
    refine s_ hf (r_move hf rfl) fun a hf => ?_
    obtain ⟨hc5, hF⟩ := of_guard hF
    obtain ⟨ad6, c6, he6, hl6⟩ := Ro.el fI64 h0 0 hc5.1 hc5.2
    refine s_ hf (r_idx Try.underlying61 sz2 hf rfl ⟨_, he6⟩ rfl hc5.1 hc5.2) fun a hf => ?_
    refine s_ hf (r_load_cell ty2 hf rfl (hl6.below hw.below)) fun a hf => ?_
    refine s_ hf (r_move hf rfl) fun a hf => ?_
    refine s_ hf (r_neq hf rfl rfl) fun a hf => ?_
    refine c_nt ?_
    rcases of_ite hF with ⟨hb7, hF⟩ | ⟨hb7, hF⟩
    · refine c_ift hf rfl hb7 <| c_seq <| c_region ?_
      refine s_ hf (r_assign hf rfl) fun a hf => ?_
      refine c_nt <| c_retc ?_
      obtain rfl := Option.some.inj hF
      refine r_then <| r_block <| r_then ?_
      refine Rnd.rets fun ho => ?_
      subst ho
      have hF := hG1
      dsimp only at hF
      obtain rfl := Option.some.inj hF
      refine r_block <| r_then <| c_ret hf (res_tmp Try.results93 hf rfl) ?_
      exact ⟨_, rfl, hw.below, rfl⟩
    refine c_iff hf rfl hb7 <| c_skip <| n_then <| c_region ?_
    refine s_ hf (r_move hf rfl) fun a hf => ?_
    refine s_ hf (r_add hf rfl rfl) fun a hf => ?_
    refine s_ hf (r_assign hf rfl) fun a hf => ?_
    refine c_nil <| n_block <| n_then <| c_region ?_
    refine s_ hf (r_move hf rfl) fun a hf => ?_
    refine s_ hf (r_add hf rfl rfl) fun a hf => ?_
    refine s_ hf (r_assign hf rfl) fun a hf => ?_
    refine c_nil ?_
    obtain rfl := Option.some.inj hF
    exact Rnd.goes ⟨_, hw, hf.sub ⟨rfl, rfl, rfl, trivial⟩⟩
  rintro ⟨s2, s3⟩ a w hs ⟨ρ, hw, hf⟩
  subst hs
  have hF := hG1
  dsimp only at hF
  refine x_block <| n_then <| c_seq <| c_region ?_
  refine s_ hf (r_move hf rfl) fun a hf => ?_
  refine s_ hf (r_assign hf rfl) fun a hf => ?_
  refine c_nt <| c_retc ?_
  obtain rfl := Option.some.inj hF
  refine c_ret hf (res_tmp Try.results93 hf rfl) ?_
  exact ⟨_, rfl, hw.below, rfl⟩
/-! f10 -/
noncomputable def laws_FnExactWalkFlips (a0 : Sch) (a1 : List Int) : Option Bool :=
  if (decide (1048576 < (a1.length : Int))) = true then (some (true)) else ((laws_szScheme a0 1048576).bind fun x2 => if (decide (x2 < 0)) = true then (some (true)) else ((laws_toScheme a0).bind fun x5 => (laws_toInt64S a1).bind fun x9 => (spec_WalkFlips x5 x9).bind fun x13 => (laws_toScheme a0).bind fun x17 => (laws_toInt64S a1).bind fun x21 => (impl_WalkFlips x17 x21).bind fun x25 => ((laws_eqScheme x25.1 x13.1).bind fun x31 => if (!x31) = true then (some true) else (some (decide (x25.2 ≠ x13.2)))).bind fun (s30 : Bool) => if s30 = true then (some (false)) else ((laws_toScheme a0).bind fun x35 => (laws_eqScheme x17 x35).bind fun x39 => if (!x39) = true then (some (false)) else ((laws_toInt64S a1).bind fun x42 => (laws_eqInt64S x21 x42).bind fun x46 => if (!x46) = true then (some (false)) else ((laws_markScheme x17 1).bind fun x49 => (laws_markInt64S x21 x49.1).bind fun x51 => (if (decide (x51.1 < 0)) = true then (some true) else ((laws_eqScheme x25.1 x13.1).bind fun x56 => if (!x56) = true then (some true) else (some (decide (x25.2 ≠ x13.2))))).bind fun (s54 : Bool) => if s54 = true then (some (false)) else ((laws_markScheme x25.1 1).bind fun x60 => (laws_heldScheme (⟨x25.1.p, x25.1.n, x25.1.m, x25.1.k, x60.2⟩ : Sch) 1).bind fun x62 => if (decide (x62 < 0)) = true then (some (false)) else (if (decide (x62 ≠ x60.1)) = true then (some (false)) else ((laws_toScheme a0).bind fun x66 => (laws_toInt64S a1).bind fun x70 => (impl_WalkFlips x66 x70).bind fun x74 => ((laws_eqScheme x74.1 x13.1).bind fun x80 => if (!x80) = true then (some true) else (some (decide (x74.2 ≠ x13.2)))).bind fun (s79 : Bool) => if s79 = true then (some (false)) else ((laws_heldScheme (⟨x25.1.p, x25.1.n, x25.1.m, x25.1.k, x60.2⟩ : Sch) 1).bind fun x84 => if (decide (x84 < 0)) = true then (some (false)) else (if (decide (x84 ≠ x60.1)) = true then (some (false)) else (some (true))))))))))))
theorem laws_FnExactWalkFlips_ok {w0 : World} {a0 : Sch} {a1 : List Int} {va0 : Value} {va1 : Value} (h0 : Ro (kf cProd) w0 va0 a0.ps) (h1 : Ro (kf fI64) w0 va1 a1) {r : Bool} (hF : laws_FnExactWalkFlips a0 a1 = some r) :
    Calls Try.prog 10 [.agg ([vI a0.p, vI a0.n, vI a0.m, vI a0.k, va0]).toArray, va1].toArray w0 fun e w => ∃ v, e = .returned v ∧ Below w0.heap.size w0 w ∧ .bool r = v := by
  refine calls_of (k := 117) Try.func10 rfl rfl (Nat.le_of_ble_eq_true rfl) fun a hf => ?_
  replace hf : Fr 117 a [(0, .agg ([vI a0.p, vI a0.n, vI a0.m, vI a0.k, va0]).toArray), (1, va1)] := hf
  refine c_start fun w ρ hw => ?_
  unfold laws_FnExactWalkFlips at hF
  refine c_seq <| c_region ?_
  refine sx_ hf (r_box (cs := [vI a0.p, vI a0.n, vI a0.m, vI a0.k, va0]) 1 hw hf rfl rfl) fun a v w hf hΦ => ?_
  obtain ⟨g1, ρ, rfl, hw, hE, o1⟩ := hΦ
  refine s_ hf (r_assign hf rfl) fun a hf => ?_
  refine c_nt <| c_seq <| c_seq <| c_region ?_
  refine s_ hf (r_move hf rfl) fun a hf => ?_
  refine s_ hf (r_len Try.underlying61 (h1.now hw) hf rfl) fun a hf => ?_
  refine s_ hf (r_gtr hf rfl rfl) fun a hf => ?_
  refine c_nt ?_
  rcases of_ite hF with ⟨hb1, hF⟩ | ⟨hb1, hF⟩
  · refine c_ift hf rfl hb1 <| c_seq <| c_region ?_
    refine s_ hf (r_assign hf rfl) fun a hf => ?_
    refine c_nt <| c_retc ?_
    obtain rfl := Option.some.inj hF
    refine r_then <| c_ret hf (res_tmp Try.results10 hf rfl) ?_
    exact ⟨_, rfl, hw.below, rfl⟩
  refine c_iff hf rfl hb1 <| c_skip <| n_then <| c_seq <| c_region ?_
  refine s_ hf (r_assign hf rfl) fun a hf => ?_
  refine c_nt <| c_seq <| c_region ?_
  refine s_ hf (r_load_agg ty24 hf rfl o1.cl rfl) fun a hf => ?_
  refine s_ hf (r_move hf rfl) fun a hf => ?_
  obtain ⟨x2, hx3, hF⟩ := of_bind hF
  refine st_fn 2 hw hf rfl rfl (by decide) (r_fn en13 hf rfl) (laws_szScheme_ok (a0 := a0) (h0.now hw) hx3) fun a v w ρ hf hw hE hN hΦ => ?_
  obtain rfl := hΦ
  replace o1 := o1.ext hE
  refine s_ hf (r_assign hf rfl) fun a hf => ?_
  refine c_nt <| c_seq <| c_seq <| c_region ?_
  refine s_ hf (r_move hf rfl) fun a hf => ?_
  refine s_ hf (r_lss hf rfl rfl) fun a hf => ?_
  refine c_nt ?_
  rcases of_ite hF with ⟨hb4, hF⟩ | ⟨hb4, hF⟩
  · refine c_ift hf rfl hb4 <| c_seq <| c_region ?_
    refine s_ hf (r_assign hf rfl) fun a hf => ?_
    refine c_nt <| c_retc ?_
    obtain rfl := Option.some.inj hF
    refine r_then <| c_ret hf (res_tmp Try.results10 hf rfl) ?_
    exact ⟨_, rfl, hw.below, rfl⟩
  refine c_iff hf rfl hb4 <| c_skip <| n_then <| c_seq <| c_region ?_
  refine s_ hf (r_load_agg ty24 hf rfl o1.cl rfl) fun a hf => ?_
  obtain ⟨x5, hx6, hF⟩ := of_bind hF
  refine st_fn 3 hw hf rfl rfl (by decide) (r_fn en15 hf rfl) (laws_toScheme_ok (a0 := a0) (h0.now hw) hx6) fun a v w ρ hf hw hE hN hΦ => ?_
  obtain ⟨u7, rfl, hr8⟩ := hΦ
  replace o1 := o1.ext hE
  have o3 := hN hr8
  refine s_ hf (r_move hf rfl) fun a hf => ?_
  obtain ⟨x9, hx10, hF⟩ := of_bind hF
  refine st_fn 4 hw hf rfl rfl (by decide) (r_fn en46 hf rfl) (laws_toInt64S_ok (h1.now hw) hx10) fun a v w ρ hf hw hE hN hΦ => ?_
  obtain ⟨u11, rfl, hr12⟩ := hΦ
  replace o1 := o1.ext hE
  replace o3 := o3.ext hE
  have o4 := hN hr12
  obtain ⟨x13, hx14, hF⟩ := of_bind hF
  refine st_fn 5 hw hf rfl rfl (by decide) (r_fn en45 hf rfl) (spec_WalkFlips_ok (a0 := x5) o3.ro o4.ro hx14) fun a v w ρ hf hw hE hN hΦ => ?_
  obtain ⟨u15, rfl, hr16⟩ := hΦ
  replace o1 := o1.ext hE
  replace o3 := o3.ext hE
  replace o4 := o4.ext hE
  have o5 := hN hr16
  refine s_ hf (r_move hf rfl) fun a hf => ?_
  refine s_ hf (r_extract hf rfl rfl) fun a hf => ?_
  refine s_ hf (r_extract hf rfl rfl) fun a hf => ?_
  have o7 : Ow (kf cProd) 78 ρ w w0.heap.size 7 (.slice none 0 0) [] := Ow.nil _ _ _ _ _ _
  refine sx_ hf (r_alloc (cs := [vI 0, vI 0, vI 0, vI 0, (.slice none 0 0)]) 6 ze28 rfl hw) fun a v w hf hΦ => ?_
  obtain ⟨g6, ρ, rfl, hw, hE, o6⟩ := hΦ
  replace o1 := o1.ext hE
  replace o3 := o3.ext hE
  replace o4 := o4.ext hE
  replace o5 := o5.ext hE
  replace o7 := o7.ext hE
  refine sk_ hf (r_store_w (cs' := [vI x13.1.p, vI x13.1.n, vI x13.1.m, vI x13.1.k, u15]) hw o6 (by decide) ty28 rfl rfl (one_sch o5.ro.one) hf rfl rfl rfl) fun a w hf hΦ => ?_
  obtain ⟨hw, hA, o6⟩ := hΦ
  replace o1 := o1.adv hA (by decide)
  replace o3 := o3.adv hA (by decide)
  replace o4 := o4.adv hA (by decide)
  replace o5 := o5.adv hA (by decide)
  replace o7 := o7.adv hA (by decide)
  refine s_ hf (r_assign hf rfl) fun a hf => ?_
  refine c_nt <| c_seq <| c_region ?_
  refine s_ hf (r_load_agg ty24 hf rfl o1.cl rfl) fun a hf => ?_
  obtain ⟨x17, hx18, hF⟩ := of_bind hF
  refine st_fn 8 hw hf rfl rfl (by decide) (r_fn en15 hf rfl) (laws_toScheme_ok (a0 := a0) (h0.now hw) hx18) fun a v w ρ hf hw hE hN hΦ => ?_
  obtain ⟨u19, rfl, hr20⟩ := hΦ
  replace o1 := o1.ext hE
  replace o3 := o3.ext hE
  replace o4 := o4.ext hE
  replace o5 := o5.ext hE
  replace o7 := o7.ext hE
  replace o6 := o6.ext hE
  have o8 := hN hr20
  have o10 : Ow (kf cProd) 78 ρ w w0.heap.size 10 (.slice none 0 0) [] := Ow.nil _ _ _ _ _ _
  refine sx_ hf (r_alloc (cs := [vI 0, vI 0, vI 0, vI 0, (.slice none 0 0)]) 9 ze28 rfl hw) fun a v w hf hΦ => ?_
  obtain ⟨g9, ρ, rfl, hw, hE, o9⟩ := hΦ
  replace o1 := o1.ext hE
  replace o3 := o3.ext hE
  replace o4 := o4.ext hE
  replace o5 := o5.ext hE
  replace o7 := o7.ext hE
  replace o6 := o6.ext hE
  replace o8 := o8.ext hE
  replace o10 := o10.ext hE
  refine sk_ hf (r_store_w (cs' := [vI x17.p, vI x17.n, vI x17.m, vI x17.k, u19]) hw o9 (by decide) ty28 rfl rfl (one_sch o8.ro.one) hf rfl rfl rfl) fun a w hf hΦ => ?_
  obtain ⟨hw, hA, o9⟩ := hΦ
  replace o1 := o1.adv hA (by decide)
  replace o3 := o3.adv hA (by decide)
  replace o4 := o4.adv hA (by decide)
  replace o5 := o5.adv hA (by decide)
  replace o7 := o7.adv hA (by decide)
  replace o6 := o6.adv hA (by decide)
  replace o8 := o8.adv hA (by decide)
  replace o10 := o10.adv hA (by decide)
  refine c_nt <| c_seq <| c_region ?_
  refine s_ hf (r_move hf rfl) fun a hf => ?_
  obtain ⟨x21, hx22, hF⟩ := of_bind hF
  refine st_fn 11 hw hf rfl rfl (by decide) (r_fn en46 hf rfl) (laws_toInt64S_ok (h1.now hw) hx22) fun a v w ρ hf hw hE hN hΦ => ?_
  obtain ⟨u23, rfl, hr24⟩ := hΦ
  replace o1 := o1.ext hE
  replace o3 := o3.ext hE
  replace o4 := o4.ext hE
  replace o5 := o5.ext hE
  replace o7 := o7.ext hE
  replace o6 := o6.ext hE
  replace o8 := o8.ext hE
  replace o10 := o10.ext hE
  replace o9 := o9.ext hE
  have o11 := hN hr24
  refine s_ hf (r_assign hf rfl) fun a hf => ?_
  refine c_nt <| c_seq <| c_region ?_
  refine s_ hf (r_load_agg ty28 hf rfl o9.cl rfl) fun a hf => ?_
  refine s_ hf (r_move hf rfl) fun a hf => ?_
  obtain ⟨x25, hx26, hF⟩ := of_bind hF
  refine st_fn 12 hw hf rfl rfl (by decide) (r_fn en47 hf rfl) (impl_WalkFlips_ok (a0 := x17) o8.ro o11.ro hx26) fun a v w ρ hf hw hE hN hΦ => ?_
  obtain ⟨u27, rfl, hr28⟩ := hΦ
  replace o1 := o1.ext hE
  replace o3 := o3.ext hE
  replace o4 := o4.ext hE
  replace o5 := o5.ext hE
  replace o7 := o7.ext hE
  replace o6 := o6.ext hE
  replace o8 := o8.ext hE
  replace o10 := o10.ext hE
  replace o9 := o9.ext hE
  replace o11 := o11.ext hE
  have o12 := hN hr28
  refine s_ hf (r_move hf rfl) fun a hf => ?_
  refine s_ hf (r_extract hf rfl rfl) fun a hf => ?_
  refine s_ hf (r_extract hf rfl rfl) fun a hf => ?_
  have o14 : Ow (kf cProd) 78 ρ w w0.heap.size 14 (.slice none 0 0) [] := Ow.nil _ _ _ _ _ _
  refine sx_ hf (r_alloc (cs := [vI 0, vI 0, vI 0, vI 0, (.slice none 0 0)]) 13 ze28 rfl hw) fun a v w hf hΦ => ?_
  obtain ⟨g13, ρ, rfl, hw, hE, o13⟩ := hΦ
  replace o1 := o1.ext hE
  replace o3 := o3.ext hE
  replace o4 := o4.ext hE
  replace o5 := o5.ext hE
  replace o7 := o7.ext hE
  replace o6 := o6.ext hE
  replace o8 := o8.ext hE
  replace o10 := o10.ext hE
  replace o9 := o9.ext hE
  replace o11 := o11.ext hE
  replace o12 := o12.ext hE
  replace o14 := o14.ext hE
  refine sk_ hf (r_store_w (cs' := [vI x25.1.p, vI x25.1.n, vI x25.1.m, vI x25.1.k, u27]) hw o13 (by decide) ty28 rfl rfl (one_sch o12.ro.one) hf rfl rfl rfl) fun a w hf hΦ => ?_
  obtain ⟨hw, hA, o13⟩ := hΦ
  replace o1 := o1.adv hA (by decide)
  replace o3 := o3.adv hA (by decide)
  replace o4 := o4.adv hA (by decide)
  replace o5 := o5.adv hA (by decide)
  replace o7 := o7.adv hA (by decide)
  replace o6 := o6.adv hA (by decide)
  replace o8 := o8.adv hA (by decide)
  replace o10 := o10.adv hA (by decide)
  replace o9 := o9.adv hA (by decide)
  replace o11 := o11.adv hA (by decide)
  replace o12 := o12.adv hA (by decide)
  replace o14 := o14.adv hA (by decide)
  refine s_ hf (r_assign hf rfl) fun a hf => ?_
  refine c_nt <| c_seq <| c_seq ?_
  obtain ⟨s30, hT29, hG29⟩ := of_bind hF
  clear hF
  refine c_meet (fun (s30 : Bool) a w => ∃ ρ, Wd w0 ρ w ∧ Fr 117 a [(1, va1), (2, .pointer (some ((⟨g1, 0, none⟩ : Addr).add 0))), (6, .pointer (some ((⟨g6, 0, none⟩ : Addr).add 0))), (7, vI x13.2), (8, .pointer (some ((⟨g9, 0, none⟩ : Addr).add 0))), (9, u23), (10, .pointer (some ((⟨g13, 0, none⟩ : Addr).add 0))), (11, vI x25.2), (51, .bool s30)] ∧ Va ρ w 1 g1 24 ([vI a0.p, vI a0.n, vI a0.m, vI a0.k, va0]) ∧ O78 ρ w w0 5 u15 x13.1.ps ∧ Va ρ w 6 g6 28 ([vI x13.1.p, vI x13.1.n, vI x13.1.m, vI x13.1.k, u15]) ∧ O78 ρ w w0 8 u19 x17.ps ∧ Va ρ w 9 g9 28 ([vI x17.p, vI x17.n, vI x17.m, vI x17.k, u19]) ∧ O2 ρ w w0 11 u23 x21 ∧ O78 ρ w w0 12 u27 x25.1.ps ∧ Va ρ w 13 g13 28 ([vI x25.1.p, vI x25.1.n, vI x25.1.m, vI x25.1.k, u27])) s30 ?_ ?_
  · have hF := hT29
    refine c_region ?_
    refine s_ hf (r_load_agg ty28 hf rfl o13.cl rfl) fun a hf => ?_
    refine s_ hf (r_load_agg ty28 hf rfl o6.cl rfl) fun a hf => ?_
    obtain ⟨x31, hx32, hF⟩ := of_bind hF
    refine st_fn 15 hw hf rfl rfl (by decide) (r_fn en17 hf rfl) (laws_eqScheme_ok (a0 := x25.1) (a1 := x13.1) o12.ro o5.ro hx32) fun a v w ρ hf hw hE hN hΦ => ?_
    obtain rfl := hΦ
    replace o1 := o1.ext hE
    replace o3 := o3.ext hE
    replace o4 := o4.ext hE
    replace o5 := o5.ext hE
    replace o7 := o7.ext hE
    replace o6 := o6.ext hE
    replace o8 := o8.ext hE
    replace o10 := o10.ext hE
    replace o9 := o9.ext hE
    replace o11 := o11.ext hE
    replace o12 := o12.ext hE
    replace o14 := o14.ext hE
    replace o13 := o13.ext hE
    refine s_ hf (r_not hf rfl) fun a hf => ?_
    refine s_ hf (r_move hf rfl) fun a hf => ?_
    rcases of_ite hF with ⟨hb33, hF⟩ | ⟨hb33, hF⟩
    · refine st_no (b := true) hf rfl rfl rfl hb33 rfl (by decide) fun a hf => ?_
      refine st_no (b := true) hf rfl rfl rfl hb33 rfl (by decide) fun a hf => ?_
      refine st_no (b := true) hf rfl rfl rfl hb33 rfl (by decide) fun a hf => ?_
      refine s_ hf (r_pick (b := true) hf rfl hb33 rfl) fun a hf => ?_
      refine c_nil ⟨rfl, ?_⟩
      obtain rfl := Option.some.inj hF
      exact ⟨_, hw, hf.sub ⟨rfl, rfl, rfl, rfl, rfl, rfl, rfl, rfl, rfl, trivial⟩, o1, o5, o6, o8, o9, o11, o12, o13⟩
    refine st_g (b := false) hf rfl rfl rfl hb33 rfl (by decide) (r_move hf rfl) fun a hf => ?_
    refine st_g (b := false) hf rfl rfl rfl hb33 rfl (by decide) (r_move hf rfl) fun a hf => ?_
    refine st_g (b := false) hf rfl rfl rfl hb33 rfl (by decide) (r_neq hf rfl rfl) fun a hf => ?_
    refine s_ hf (r_pick (b := false) hf rfl hb33 rfl) fun a hf => ?_
    refine c_nil ⟨rfl, ?_⟩
    obtain rfl := Option.some.inj hF
    exact ⟨_, hw, hf.sub ⟨rfl, rfl, rfl, rfl, rfl, rfl, rfl, rfl, rfl, trivial⟩, o1, o5, o6, o8, o9, o11, o12, o13⟩
  rintro a w ⟨ρ, hw, hf, o1, o5, o6, o8, o9, o11, o12, o13⟩
  have hF := hG29
  refine n_then ?_
  rcases of_ite hF with ⟨hb34, hF⟩ | ⟨hb34, hF⟩
  · refine c_ift hf rfl hb34 <| c_seq <| c_region ?_
    refine s_ hf (r_assign hf rfl) fun a hf => ?_
    refine c_nt <| c_retc ?_
    obtain rfl := Option.some.inj hF
    refine r_then <| c_ret hf (res_tmp Try.results10 hf rfl) ?_
    exact ⟨_, rfl, hw.below, rfl⟩
  refine c_iff hf rfl hb34 <| c_skip <| n_then <| c_seq <| c_seq ?_
  obtain ⟨x35, hx36, hF⟩ := of_bind hF
  replace hf : Fr 117 a [(1, va1), (2, .pointer (some ((⟨g1, 0, none⟩ : Addr).add 0))), (6, .pointer (some ((⟨g6, 0, none⟩ : Addr).add 0))), (7, vI x13.2), (8, .pointer (some ((⟨g9, 0, none⟩ : Addr).add 0))), (9, u23), (10, .pointer (some ((⟨g13, 0, none⟩ : Addr).add 0))), (11, vI x25.2)] := hf.sub ⟨rfl, rfl, rfl, rfl, rfl, rfl, rfl, rfl, trivial⟩
  refine c_drawL (h := 3) mixed (by kernel_rfl) (by kernel_rfl) (fun ρ w => Va ρ w 1 g1 24 ([vI a0.p, vI a0.n, vI a0.m, vI a0.k, va0]) ∧ O78 ρ w w0 5 u15 x13.1.ps ∧ Va ρ w 6 g6 28 ([vI x13.1.p, vI x13.1.n, vI x13.1.m, vI x13.1.k, u15]) ∧ O78 ρ w w0 8 u19 x17.ps ∧ Va ρ w 9 g9 28 ([vI x17.p, vI x17.n, vI x17.m, vI x17.k, u19]) ∧ O2 ρ w w0 11 u23 x21 ∧ O78 ρ w w0 12 u27 x25.1.ps ∧ Va ρ w 13 g13 28 ([vI x25.1.p, vI x25.1.n, vI x25.1.m, vI x25.1.k, u27])) ?_ [fun ρ w v => .agg ([vI x17.p, vI x17.n, vI x17.m, vI x17.k, u19]).toArray = v, fun ρ w v => .agg ([vI a0.p, vI a0.n, vI a0.m, vI a0.k, va0]).toArray = v, fun ρ w v => ∃ u37, .agg ([vI x35.p, vI x35.n, vI x35.m, vI x35.k, u37]).toArray = v ∧ O78 ρ w w0 16 u37 x35.ps] ?_ hw ⟨o1, o5, o6, o8, o9, o11, o12, o13⟩ hf ?_ ?_
  · intro ρ w ρ' w' hE hG
    obtain ⟨o1, o5, o6, o8, o9, o11, o12, o13⟩ := hG
    exact ⟨o1.ext hE, o5.ext hE, o6.ext hE, o8.ext hE, o9.ext hE, o11.ext hE, o12.ext hE, o13.ext hE⟩
  · exact LastsL.cons (fun _ _ _ _ _ _ h => h) <| LastsL.cons (fun _ _ _ _ _ _ h => h) <| LastsL.cons (fun _ _ _ _ _ hE h => by obtain ⟨u37, h, o16⟩ := h; exact ⟨_, h, o16.ext hE⟩) <| LastsL.nil
  · refine StepsB.cons ?_ <| StepsB.cons ?_ <| StepsB.cons ?_ <| StepsB.nil
    · intro ρ w a hw hG hf hd K hK
      obtain ⟨o1, o5, o6, o8, o9, o11, o12, o13⟩ := hG
      exact dv_ hK hw (wn rfl) (r_load_agg ty28 hf rfl o9.cl rfl) rfl
    · intro ρ w a hw hG hf hd K hK
      obtain ⟨o1, o5, o6, o8, o9, o11, o12, o13⟩ := hG
      exact dv_ hK hw (wn rfl) (r_load_agg ty24 hf rfl o1.cl rfl) rfl
    · intro ρ w a hw hG hf hd K hK
      obtain ⟨o1, o5, o6, o8, o9, o11, o12, o13⟩ := hG
      obtain ⟨_, hf, rfl⟩ := got (hd 1 (by kernel_rfl)) hf
      refine dc_ hK hw (wn rfl) (r_fn en15 hf rfl) (laws_toScheme_ok (a0 := a0) (h0.now hw) hx36) fun v w' hΦ => ?_
      obtain ⟨hb, hΦ⟩ := hΦ
      obtain ⟨u37, rfl, hr38⟩ := hΦ
      have hE := Ext.new (ρ := ρ) 16 hb
      have o16 := Fresh.own (ρ := ρ) (B := w0.heap.size) hr38 hw.below.size 16
      exact ⟨_, hw.new 16 hb, hE, ex_ <| an_ rfl <| o16⟩
  intro ρ w a hw hG hf hd
  obtain ⟨o1, o5, o6, o8, o9, o11, o12, o13⟩ := hG
  obtain ⟨_, hf, rfl⟩ := got (hd 0 (by decide)) hf
  obtain ⟨_, hf, ⟨u37, rfl, o16⟩⟩ := got (hd 2 (by decide)) hf
  obtain ⟨x39, hx40, hF⟩ := of_bind hF
  refine st_fn 17 hw hf rfl rfl (by decide) (r_fn en17 hf rfl) (laws_eqScheme_ok (a0 := x17) (a1 := x35) o8.ro o16.ro hx40) fun a v w ρ hf hw hE hN hΦ => ?_
  obtain rfl := hΦ
  replace o1 := o1.ext hE
  replace o5 := o5.ext hE
  replace o6 := o6.ext hE
  replace o8 := o8.ext hE
  replace o9 := o9.ext hE
  replace o11 := o11.ext hE
  replace o12 := o12.ext hE
  replace o13 := o13.ext hE
  replace o16 := o16.ext hE
  refine s_ hf (r_not hf rfl) fun a hf => ?_
  refine c_nt ?_
  rcases of_ite hF with ⟨hb41, hF⟩ | ⟨hb41, hF⟩
  · refine c_ift hf rfl hb41 <| c_seq <| c_region ?_
    refine s_ hf (r_assign hf rfl) fun a hf => ?_
    refine c_nt <| c_retc ?_
    obtain rfl := Option.some.inj hF
    refine r_then <| c_ret hf (res_tmp Try.results10 hf rfl) ?_
    exact ⟨_, rfl, hw.below, rfl⟩
  refine c_iff hf rfl hb41 <| c_skip <| n_then <| c_seq <| c_seq <| c_region ?_
  refine s_ hf (r_move hf rfl) fun a hf => ?_
  refine s_ hf (r_move hf rfl) fun a hf => ?_
  obtain ⟨x42, hx43, hF⟩ := of_bind hF
  refine st_fn 18 hw hf rfl rfl (by decide) (r_fn en46 hf rfl) (laws_toInt64S_ok (h1.now hw) hx43) fun a v w ρ hf hw hE hN hΦ => ?_
  obtain ⟨u44, rfl, hr45⟩ := hΦ
  replace o1 := o1.ext hE
  replace o5 := o5.ext hE
  replace o6 := o6.ext hE
  replace o8 := o8.ext hE
  replace o9 := o9.ext hE
  replace o11 := o11.ext hE
  replace o12 := o12.ext hE
  replace o13 := o13.ext hE
  replace o16 := o16.ext hE
  have o18 := hN hr45
  obtain ⟨x46, hx47, hF⟩ := of_bind hF
  refine st_fn 19 hw hf rfl rfl (by decide) (r_fn en48 hf rfl) (laws_eqInt64S_ok o11.ro o18.ro hx47) fun a v w ρ hf hw hE hN hΦ => ?_
  obtain rfl := hΦ
  replace o1 := o1.ext hE
  replace o5 := o5.ext hE
  replace o6 := o6.ext hE
  replace o8 := o8.ext hE
  replace o9 := o9.ext hE
  replace o11 := o11.ext hE
  replace o12 := o12.ext hE
  replace o13 := o13.ext hE
  replace o16 := o16.ext hE
  replace o18 := o18.ext hE
  refine s_ hf (r_not hf rfl) fun a hf => ?_
  refine c_nt ?_
  rcases of_ite hF with ⟨hb48, hF⟩ | ⟨hb48, hF⟩
  · refine c_ift hf rfl hb48 <| c_seq <| c_region ?_
    refine s_ hf (r_assign hf rfl) fun a hf => ?_
    refine c_nt <| c_retc ?_
    obtain rfl := Option.some.inj hF
    refine r_then <| c_ret hf (res_tmp Try.results10 hf rfl) ?_
    exact ⟨_, rfl, hw.below, rfl⟩
  refine c_iff hf rfl hb48 <| c_skip <| n_then <| c_seq <| c_region ?_
  refine s_ hf (r_assign hf rfl) fun a hf => ?_
  refine c_nt <| c_seq <| c_region ?_
  refine s_ hf (r_load_agg ty28 hf rfl o9.cl rfl) fun a hf => ?_
  refine s_ hf (r_move hf rfl) fun a hf => ?_
  obtain ⟨x49, hx50, hF⟩ := of_bind hF
  refine st_mfn hf rfl rfl (by decide) (r_fn en18 hf rfl) (laws_markScheme_ok (a0 := x17) (by decide) hw o8 hx50) fun a v w ρ hf hw hA hΦ => ?_
  obtain ⟨rfl, o8⟩ := hΦ
  replace o1 := o1.adv hA (by decide)
  replace o5 := o5.adv hA (by decide)
  replace o6 := o6.adv hA (by decide)
  replace o9 := o9.adv hA (by decide)
  replace o11 := o11.adv hA (by decide)
  replace o12 := o12.adv hA (by decide)
  replace o13 := o13.adv hA (by decide)
  replace o16 := o16.adv hA (by decide)
  replace o18 := o18.adv hA (by decide)
  refine s_ hf (r_assign hf rfl) fun a hf => ?_
  refine c_nt <| c_seq <| c_region ?_
  refine s_ hf (r_move hf rfl) fun a hf => ?_
  refine s_ hf (r_move hf rfl) fun a hf => ?_
  obtain ⟨x51, hx52, hF⟩ := of_bind hF
  refine st_mfn hf rfl rfl (by decide) (r_fn en49 hf rfl) (laws_markInt64S_ok (by decide) hw o11 hx52) fun a v w ρ hf hw hA hΦ => ?_
  obtain ⟨rfl, o11⟩ := hΦ
  replace o1 := o1.adv hA (by decide)
  replace o5 := o5.adv hA (by decide)
  replace o6 := o6.adv hA (by decide)
  replace o8 := o8.adv hA (by decide)
  replace o9 := o9.adv hA (by decide)
  replace o12 := o12.adv hA (by decide)
  replace o13 := o13.adv hA (by decide)
  replace o16 := o16.adv hA (by decide)
  replace o18 := o18.adv hA (by decide)
  refine s_ hf (r_assign hf rfl) fun a hf => ?_
  refine c_nt <| c_seq <| c_seq ?_
  obtain ⟨s54, hT53, hG53⟩ := of_bind hF
  clear hF
  refine c_meet (fun (s54 : Bool) a w => ∃ ρ, Wd w0 ρ w ∧ Fr 117 a [(1, va1), (2, .pointer (some ((⟨g1, 0, none⟩ : Addr).add 0))), (6, .pointer (some ((⟨g6, 0, none⟩ : Addr).add 0))), (7, vI x13.2), (10, .pointer (some ((⟨g13, 0, none⟩ : Addr).add 0))), (80, .bool s54)] ∧ Va ρ w 1 g1 24 ([vI a0.p, vI a0.n, vI a0.m, vI a0.k, va0]) ∧ O78 ρ w w0 5 u15 x13.1.ps ∧ Va ρ w 6 g6 28 ([vI x13.1.p, vI x13.1.n, vI x13.1.m, vI x13.1.k, u15]) ∧ O78 ρ w w0 12 u27 x25.1.ps ∧ Va ρ w 13 g13 28 ([vI x25.1.p, vI x25.1.n, vI x25.1.m, vI x25.1.k, u27])) s54 ?_ ?_
  · have hF := hT53
    refine c_region ?_
    refine s_ hf (r_move hf rfl) fun a hf => ?_
    refine s_ hf (r_lss hf rfl rfl) fun a hf => ?_
    refine s_ hf (r_move hf rfl) fun a hf => ?_
    rcases of_ite hF with ⟨hb55, hF⟩ | ⟨hb55, hF⟩
    · refine st_no (b := true) hf rfl rfl rfl hb55 rfl (by decide) fun a hf => ?_
      refine st_no (b := true) hf rfl rfl rfl hb55 rfl (by decide) fun a hf => ?_
      refine st_no (b := true) hf rfl rfl rfl hb55 rfl (by decide) fun a hf => ?_
      refine st_no (b := true) hf rfl rfl rfl hb55 rfl (by decide) fun a hf => ?_
      refine s_ hf (r_pick (b := true) hf rfl hb55 rfl) fun a hf => ?_
      refine s_ hf (r_move hf rfl) fun a hf => ?_
      refine st_no (b := true) hf rfl rfl rfl rfl rfl (by decide) fun a hf => ?_
      refine st_no (b := true) hf rfl rfl rfl rfl rfl (by decide) fun a hf => ?_
      refine st_no (b := true) hf rfl rfl rfl rfl rfl (by decide) fun a hf => ?_
      refine s_ hf (r_pick (b := true) hf rfl rfl rfl) fun a hf => ?_
      refine c_nil ⟨rfl, ?_⟩
      obtain rfl := Option.some.inj hF
      exact ⟨_, hw, hf.sub ⟨rfl, rfl, rfl, rfl, rfl, rfl, trivial⟩, o1, o5, o6, o12, o13⟩
    refine st_g (b := false) hf rfl rfl rfl hb55 rfl (by decide) (r_load_agg ty28 hf rfl o13.cl rfl) fun a hf => ?_
    refine st_g (b := false) hf rfl rfl rfl hb55 rfl (by decide) (r_load_agg ty28 hf rfl o6.cl rfl) fun a hf => ?_
    obtain ⟨x56, hx57, hF⟩ := of_bind hF
    refine st_gfn (b := false) 20 hw hf rfl rfl rfl hb55 rfl (by decide) (r_fn en17 hf rfl) (laws_eqScheme_ok (a0 := x25.1) (a1 := x13.1) o12.ro o5.ro hx57) fun a v w ρ hf hw hE hN hΦ => ?_
    obtain rfl := hΦ
    replace o1 := o1.ext hE
    replace o5 := o5.ext hE
    replace o6 := o6.ext hE
    replace o8 := o8.ext hE
    replace o9 := o9.ext hE
    replace o11 := o11.ext hE
    replace o12 := o12.ext hE
    replace o13 := o13.ext hE
    replace o16 := o16.ext hE
    replace o18 := o18.ext hE
    refine st_g (b := false) hf rfl rfl rfl hb55 rfl (by decide) (r_not hf rfl) fun a hf => ?_
    refine s_ hf (r_pick (b := false) hf rfl hb55 rfl) fun a hf => ?_
    refine s_ hf (r_move hf rfl) fun a hf => ?_
    rcases of_ite hF with ⟨hb58, hF⟩ | ⟨hb58, hF⟩
    · refine st_no (b := true) hf rfl rfl rfl hb58 rfl (by decide) fun a hf => ?_
      refine st_no (b := true) hf rfl rfl rfl hb58 rfl (by decide) fun a hf => ?_
      refine st_no (b := true) hf rfl rfl rfl hb58 rfl (by decide) fun a hf => ?_
      refine s_ hf (r_pick (b := true) hf rfl hb58 rfl) fun a hf => ?_
      refine c_nil ⟨rfl, ?_⟩
      obtain rfl := Option.some.inj hF
      exact ⟨_, hw, hf.sub ⟨rfl, rfl, rfl, rfl, rfl, rfl, trivial⟩, o1, o5, o6, o12, o13⟩
    refine st_g (b := false) hf rfl rfl rfl hb58 rfl (by decide) (r_move hf rfl) fun a hf => ?_
    refine st_g (b := false) hf rfl rfl rfl hb58 rfl (by decide) (r_move hf rfl) fun a hf => ?_
    refine st_g (b := false) hf rfl rfl rfl hb58 rfl (by decide) (r_neq hf rfl rfl) fun a hf => ?_
    refine s_ hf (r_pick (b := false) hf rfl hb58 rfl) fun a hf => ?_
    refine c_nil ⟨rfl, ?_⟩
    obtain rfl := Option.some.inj hF
    exact ⟨_, hw, hf.sub ⟨rfl, rfl, rfl, rfl, rfl, rfl, trivial⟩, o1, o5, o6, o12, o13⟩
  rintro a w ⟨ρ, hw, hf, o1, o5, o6, o12, o13⟩
  have hF := hG53
  refine n_then ?_
  rcases of_ite hF with ⟨hb59, hF⟩ | ⟨hb59, hF⟩
  · refine c_ift hf rfl hb59 <| c_seq <| c_region ?_
    refine s_ hf (r_assign hf rfl) fun a hf => ?_
    refine c_nt <| c_retc ?_
    obtain rfl := Option.some.inj hF
    refine r_then <| c_ret hf (res_tmp Try.results10 hf rfl) ?_
    exact ⟨_, rfl, hw.below, rfl⟩
  refine c_iff hf rfl hb59 <| c_skip <| n_then <| c_seq <| c_region ?_
  refine s_ hf (r_assign hf rfl) fun a hf => ?_
  refine c_nt <| c_seq <| c_region ?_
  refine s_ hf (r_load_agg ty28 hf rfl o13.cl rfl) fun a hf => ?_
  refine s_ hf (r_move hf rfl) fun a hf => ?_
  obtain ⟨x60, hx61, hF⟩ := of_bind hF
  refine st_mfn hf rfl rfl (by decide) (r_fn en18 hf rfl) (laws_markScheme_ok (a0 := x25.1) (by decide) hw o12 hx61) fun a v w ρ hf hw hA hΦ => ?_
  obtain ⟨rfl, o12⟩ := hΦ
  replace o1 := o1.adv hA (by decide)
  replace o5 := o5.adv hA (by decide)
  replace o6 := o6.adv hA (by decide)
  replace o13 := o13.adv hA (by decide)
  refine s_ hf (r_assign hf rfl) fun a hf => ?_
  refine c_nt <| c_seq <| c_region ?_
  refine s_ hf (r_assign hf rfl) fun a hf => ?_
  refine c_nt <| c_seq <| c_region ?_
  refine s_ hf (r_load_agg ty28 hf rfl o13.cl rfl) fun a hf => ?_
  refine s_ hf (r_move hf rfl) fun a hf => ?_
  obtain ⟨x62, hx63, hF⟩ := of_bind hF
  refine st_fn 21 hw hf rfl rfl (by decide) (r_fn en19 hf rfl) (laws_heldScheme_ok (a0 := (⟨x25.1.p, x25.1.n, x25.1.m, x25.1.k, x60.2⟩ : Sch)) o12.ro hx63) fun a v w ρ hf hw hE hN hΦ => ?_
  obtain rfl := hΦ
  replace o1 := o1.ext hE
  replace o5 := o5.ext hE
  replace o6 := o6.ext hE
  replace o12 := o12.ext hE
  replace o13 := o13.ext hE
  refine s_ hf (r_assign hf rfl) fun a hf => ?_
  refine c_nt <| c_seq <| c_seq <| c_region ?_
  refine s_ hf (r_move hf rfl) fun a hf => ?_
  refine s_ hf (r_lss hf rfl rfl) fun a hf => ?_
  refine c_nt ?_
  rcases of_ite hF with ⟨hb64, hF⟩ | ⟨hb64, hF⟩
  · refine c_ift hf rfl hb64 <| c_seq <| c_region ?_
    refine s_ hf (r_assign hf rfl) fun a hf => ?_
    refine c_nt <| c_retc ?_
    obtain rfl := Option.some.inj hF
    refine r_then <| c_ret hf (res_tmp Try.results10 hf rfl) ?_
    exact ⟨_, rfl, hw.below, rfl⟩
  refine c_iff hf rfl hb64 <| c_skip <| n_then <| c_seq <| c_seq <| c_region ?_
  refine s_ hf (r_move hf rfl) fun a hf => ?_
  refine s_ hf (r_move hf rfl) fun a hf => ?_
  refine s_ hf (r_neq hf rfl rfl) fun a hf => ?_
  refine c_nt ?_
  rcases of_ite hF with ⟨hb65, hF⟩ | ⟨hb65, hF⟩
  · refine c_ift hf rfl hb65 <| c_seq <| c_region ?_
    refine s_ hf (r_assign hf rfl) fun a hf => ?_
    refine c_nt <| c_retc ?_
    obtain rfl := Option.some.inj hF
    refine r_then <| c_ret hf (res_tmp Try.results10 hf rfl) ?_
    exact ⟨_, rfl, hw.below, rfl⟩
  refine c_iff hf rfl hb65 <| c_skip <| n_then <| c_seq <| c_region ?_
  refine s_ hf (r_load_agg ty24 hf rfl o1.cl rfl) fun a hf => ?_
  obtain ⟨x66, hx67, hF⟩ := of_bind hF
  refine st_fn 22 hw hf rfl rfl (by decide) (r_fn en15 hf rfl) (laws_toScheme_ok (a0 := a0) (h0.now hw) hx67) fun a v w ρ hf hw hE hN hΦ => ?_
  obtain ⟨u68, rfl, hr69⟩ := hΦ
  replace o1 := o1.ext hE
  replace o5 := o5.ext hE
  replace o6 := o6.ext hE
  replace o12 := o12.ext hE
  replace o13 := o13.ext hE
  have o22 := hN hr69
  refine s_ hf (r_move hf rfl) fun a hf => ?_
  obtain ⟨x70, hx71, hF⟩ := of_bind hF
  refine st_fn 23 hw hf rfl rfl (by decide) (r_fn en46 hf rfl) (laws_toInt64S_ok (h1.now hw) hx71) fun a v w ρ hf hw hE hN hΦ => ?_
  obtain ⟨u72, rfl, hr73⟩ := hΦ
  replace o1 := o1.ext hE
  replace o5 := o5.ext hE
  replace o6 := o6.ext hE
  replace o12 := o12.ext hE
  replace o13 := o13.ext hE
  replace o22 := o22.ext hE
  have o23 := hN hr73
  obtain ⟨x74, hx75, hF⟩ := of_bind hF
  refine st_fn 24 hw hf rfl rfl (by decide) (r_fn en47 hf rfl) (impl_WalkFlips_ok (a0 := x66) o22.ro o23.ro hx75) fun a v w ρ hf hw hE hN hΦ => ?_
  obtain ⟨u76, rfl, hr77⟩ := hΦ
  replace o1 := o1.ext hE
  replace o5 := o5.ext hE
  replace o6 := o6.ext hE
  replace o12 := o12.ext hE
  replace o13 := o13.ext hE
  replace o22 := o22.ext hE
  replace o23 := o23.ext hE
  have o24 := hN hr77
  refine s_ hf (r_move hf rfl) fun a hf => ?_
  refine s_ hf (r_extract hf rfl rfl) fun a hf => ?_
  refine s_ hf (r_extract hf rfl rfl) fun a hf => ?_
  have o26 : Ow (kf cProd) 78 ρ w w0.heap.size 26 (.slice none 0 0) [] := Ow.nil _ _ _ _ _ _
  refine sx_ hf (r_alloc (cs := [vI 0, vI 0, vI 0, vI 0, (.slice none 0 0)]) 25 ze28 rfl hw) fun a v w hf hΦ => ?_
  obtain ⟨g25, ρ, rfl, hw, hE, o25⟩ := hΦ
  replace o1 := o1.ext hE
  replace o5 := o5.ext hE
  replace o6 := o6.ext hE
  replace o12 := o12.ext hE
  replace o13 := o13.ext hE
  replace o22 := o22.ext hE
  replace o23 := o23.ext hE
  replace o24 := o24.ext hE
  replace o26 := o26.ext hE
  refine sk_ hf (r_store_w (cs' := [vI x74.1.p, vI x74.1.n, vI x74.1.m, vI x74.1.k, u76]) hw o25 (by decide) ty28 rfl rfl (one_sch o24.ro.one) hf rfl rfl rfl) fun a w hf hΦ => ?_
  obtain ⟨hw, hA, o25⟩ := hΦ
  replace o1 := o1.adv hA (by decide)
  replace o5 := o5.adv hA (by decide)
  replace o6 := o6.adv hA (by decide)
  replace o12 := o12.adv hA (by decide)
  replace o13 := o13.adv hA (by decide)
  replace o22 := o22.adv hA (by decide)
  replace o23 := o23.adv hA (by decide)
  replace o24 := o24.adv hA (by decide)
  replace o26 := o26.adv hA (by decide)
  refine s_ hf (r_assign hf rfl) fun a hf => ?_
  refine c_nt <| c_seq <| c_seq ?_
  obtain ⟨s79, hT78, hG78⟩ := of_bind hF
  clear hF
  refine c_meet (fun (s79 : Bool) a w => ∃ ρ, Wd w0 ρ w ∧ Fr 117 a [(10, .pointer (some ((⟨g13, 0, none⟩ : Addr).add 0))), (13, vI x60.1), (108, .bool s79)] ∧ O78 ρ w w0 12 u27 x60.2 ∧ Va ρ w 13 g13 28 ([vI x25.1.p, vI x25.1.n, vI x25.1.m, vI x25.1.k, u27])) s79 ?_ ?_
  · have hF := hT78
    refine c_region ?_
    refine s_ hf (r_load_agg ty28 hf rfl o25.cl rfl) fun a hf => ?_
    refine s_ hf (r_load_agg ty28 hf rfl o6.cl rfl) fun a hf => ?_
    obtain ⟨x80, hx81, hF⟩ := of_bind hF
    refine st_fn 27 hw hf rfl rfl (by decide) (r_fn en17 hf rfl) (laws_eqScheme_ok (a0 := x74.1) (a1 := x13.1) o24.ro o5.ro hx81) fun a v w ρ hf hw hE hN hΦ => ?_
    obtain rfl := hΦ
    replace o1 := o1.ext hE
    replace o5 := o5.ext hE
    replace o6 := o6.ext hE
    replace o12 := o12.ext hE
    replace o13 := o13.ext hE
    replace o22 := o22.ext hE
    replace o23 := o23.ext hE
    replace o24 := o24.ext hE
    replace o26 := o26.ext hE
    replace o25 := o25.ext hE
    refine s_ hf (r_not hf rfl) fun a hf => ?_
    refine s_ hf (r_move hf rfl) fun a hf => ?_
    rcases of_ite hF with ⟨hb82, hF⟩ | ⟨hb82, hF⟩
    · refine st_no (b := true) hf rfl rfl rfl hb82 rfl (by decide) fun a hf => ?_
      refine st_no (b := true) hf rfl rfl rfl hb82 rfl (by decide) fun a hf => ?_
      refine st_no (b := true) hf rfl rfl rfl hb82 rfl (by decide) fun a hf => ?_
      refine s_ hf (r_pick (b := true) hf rfl hb82 rfl) fun a hf => ?_
      refine c_nil ⟨rfl, ?_⟩
      obtain rfl := Option.some.inj hF
      exact ⟨_, hw, hf.sub ⟨rfl, rfl, rfl, trivial⟩, o12, o13⟩
    refine st_g (b := false) hf rfl rfl rfl hb82 rfl (by decide) (r_move hf rfl) fun a hf => ?_
    refine st_g (b := false) hf rfl rfl rfl hb82 rfl (by decide) (r_move hf rfl) fun a hf => ?_
    refine st_g (b := false) hf rfl rfl rfl hb82 rfl (by decide) (r_neq hf rfl rfl) fun a hf => ?_
    refine s_ hf (r_pick (b := false) hf rfl hb82 rfl) fun a hf => ?_
    refine c_nil ⟨rfl, ?_⟩
    obtain rfl := Option.some.inj hF
    exact ⟨_, hw, hf.sub ⟨rfl, rfl, rfl, trivial⟩, o12, o13⟩
  rintro a w ⟨ρ, hw, hf, o12, o13⟩
  have hF := hG78
  refine n_then ?_
  rcases of_ite hF with ⟨hb83, hF⟩ | ⟨hb83, hF⟩
  · refine c_ift hf rfl hb83 <| c_seq <| c_region ?_
    refine s_ hf (r_assign hf rfl) fun a hf => ?_
    refine c_nt <| c_retc ?_
    obtain rfl := Option.some.inj hF
    refine r_then <| c_ret hf (res_tmp Try.results10 hf rfl) ?_
    exact ⟨_, rfl, hw.below, rfl⟩
  refine c_iff hf rfl hb83 <| c_skip <| n_then <| c_seq <| c_region ?_
  refine s_ hf (r_assign hf rfl) fun a hf => ?_
  refine c_nt <| c_seq <| c_region ?_
  refine s_ hf (r_load_agg ty28 hf rfl o13.cl rfl) fun a hf => ?_
  refine s_ hf (r_move hf rfl) fun a hf => ?_
  obtain ⟨x84, hx85, hF⟩ := of_bind hF
  refine st_fn 28 hw hf rfl rfl (by decide) (r_fn en19 hf rfl) (laws_heldScheme_ok (a0 := (⟨x25.1.p, x25.1.n, x25.1.m, x25.1.k, x60.2⟩ : Sch)) o12.ro hx85) fun a v w ρ hf hw hE hN hΦ => ?_
  obtain rfl := hΦ
  replace o12 := o12.ext hE
  replace o13 := o13.ext hE
  refine s_ hf (r_assign hf rfl) fun a hf => ?_
  refine c_nt <| c_seq <| c_seq <| c_region ?_
  refine s_ hf (r_move hf rfl) fun a hf => ?_
  refine s_ hf (r_lss hf rfl rfl) fun a hf => ?_
  refine c_nt ?_
  rcases of_ite hF with ⟨hb86, hF⟩ | ⟨hb86, hF⟩
  · refine c_ift hf rfl hb86 <| c_seq <| c_region ?_
    refine s_ hf (r_assign hf rfl) fun a hf => ?_
    refine c_nt <| c_retc ?_
    obtain rfl := Option.some.inj hF
    refine r_then <| c_ret hf (res_tmp Try.results10 hf rfl) ?_
    exact ⟨_, rfl, hw.below, rfl⟩
  refine c_iff hf rfl hb86 <| c_skip <| n_then <| c_seq <| c_seq <| c_region ?_
  refine s_ hf (r_move hf rfl) fun a hf => ?_
  refine s_ hf (r_move hf rfl) fun a hf => ?_
  refine s_ hf (r_neq hf rfl rfl) fun a hf => ?_
  refine c_nt ?_
  rcases of_ite hF with ⟨hb87, hF⟩ | ⟨hb87, hF⟩
  · refine c_ift hf rfl hb87 <| c_seq <| c_region ?_
    refine s_ hf (r_assign hf rfl) fun a hf => ?_
    refine c_nt <| c_retc ?_
    obtain rfl := Option.some.inj hF
    refine r_then <| c_ret hf (res_tmp Try.results10 hf rfl) ?_
    exact ⟨_, rfl, hw.below, rfl⟩
  refine c_iff hf rfl hb87 <| c_skip <| n_then <| c_seq <| c_region ?_
  refine s_ hf (r_assign hf rfl) fun a hf => ?_
  refine c_nt <| c_retc ?_
  obtain rfl := Option.some.inj hF
  refine c_ret hf (res_tmp Try.results10 hf rfl) ?_
  exact ⟨_, rfl, hw.below, rfl⟩
end Go.Proofs.YtB
