/- Functions of the program as plain functions, and that they compute these. Printed by gen.py. -/
import Derived.Test.YtaaghemmkbgldaaRsG2
set_option linter.unusedVariables false
set_option linter.unusedSimpArgs false
set_option maxRecDepth 4000
set_option maxHeartbeats 1000000
namespace Go.Proofs.YtB
open Go Go.RowKit Go.Proofs Go.Proofs.YtaaghemmkbgldaaW.PrintWords
/-! f26 -/
noncomputable def impl_SplitProduct (a0 : Sch) (a1 : Int) (a2 : Int) (a3 : Form) : Option (Sch × Int) :=
  (impl_IsScheme a0).bind fun x1 => if (!x1) = true then (some (((⟨0, 0, 0, 0, ([] : List Prod)⟩ : Sch), 1))) else (((impl_isIndex a0 ([a1])).bind fun x6 => if (!x6) = true then (some true) else (if (decide (a2 < 0)) = true then (some true) else (if (decide (2 < a2)) = true then (some true) else ((impl_placesOf a0).bind fun x11 => if 0 ≤ a2 ∧ a2 < 3 then ((impl_isForm a0.p (vg 0 x11 a2) a3).bind fun x14 => some (!x14)) else none)))).bind fun (s5 : Bool) => if s5 = true then (some (((⟨0, 0, 0, 0, ([] : List Prod)⟩ : Sch), 2))) else (if 0 ≤ a1 ∧ a1 < (a0.ps.length : Int) then ((impl_factors (gl zProd a0.ps a1)).bind fun x19 => (if (decide (a3 = zForm)) = true then (some true) else (if 0 ≤ a2 ∧ a2 < 3 then (some (decide (a3 = (vg zForm x19 a2)))) else none)).bind fun (s22 : Bool) => if s22 = true then (some (((⟨0, 0, 0, 0, ([] : List Prod)⟩ : Sch), 5))) else (if (decide ((a0.ps.length : Int) = 30)) = true then (some (((⟨0, 0, 0, 0, ([] : List Prod)⟩ : Sch), 3))) else (if 0 ≤ a2 ∧ a2 < 3 then ((impl_sum a0.p (vg zForm x19 a2) a3 (w64 (a0.p - 1))).bind fun x28 => (slices_Clone_76 a0.ps).bind fun x30 => (impl_productOf (vs x19 a2 a3)).bind fun x34 => if 0 ≤ a1 ∧ a1 < (x30.length : Int) then ((impl_productOf (vs x19 a2 x28)).bind fun x38 => if ((x30.set a1.toNat x34).length + ([x38]).length) * 27 ≤ 140737488355328 then ((impl_with a0 ((x30.set a1.toNat x34) ++ [x38])).bind fun x42 => some ((x42, 0))) else none) else none) else none))) else none))
theorem impl_SplitProduct_ok {w0 : World} {a0 : Sch} {a1 : Int} {a2 : Int} {a3 : Form} {va0 : Value} (h0 : Ro (kf cProd) w0 va0 a0.ps) {r : Sch × Int} (hF : impl_SplitProduct a0 a1 a2 a3 = some r) :
    Calls Try.prog 26 [.agg ([vI a0.p, vI a0.n, vI a0.m, vI a0.k, va0]).toArray, vI a1, vI a2, .agg (cForm.enc a3).toArray].toArray w0 fun e w => ∃ v, e = .returned v ∧ Below w0.heap.size w0 w ∧ ∃ u0, .tuple #[.agg [.int .i64 r.1.p, .int .i64 r.1.n, .int .i64 r.1.m, .int .i64 r.1.k, u0].toArray, .int .i64 r.2] = v ∧ Fresh (kf cProd) 78 w0 w u0 r.1.ps := by
  refine calls_of (k := 99) Try.func26 rfl rfl (Nat.le_of_ble_eq_true rfl) fun a hf => ?_
  replace hf : Fr 99 a [(0, .agg ([vI a0.p, vI a0.n, vI a0.m, vI a0.k, va0]).toArray), (1, vI a1), (2, vI a2), (3, .agg (cForm.enc a3).toArray)] := hf
  refine c_start fun w ρ hw => ?_
  unfold impl_SplitProduct at hF
  refine c_seq <| c_region ?_
  refine sx_ hf (r_box (cs := [vI a0.p, vI a0.n, vI a0.m, vI a0.k, va0]) 1 hw hf rfl rfl) fun a v w hf hΦ => ?_
  obtain ⟨g1, ρ, rfl, hw, hE, o1⟩ := hΦ
  refine sx_ hf (r_box (cs := cForm.enc a3) 2 hw hf rfl rfl) fun a v w hf hΦ => ?_
  obtain ⟨g2, ρ, rfl, hw, hE, o2⟩ := hΦ
  replace o1 := o1.ext hE
  have o4 : Ow (kf cProd) 78 ρ w w0.heap.size 4 (.slice none 0 0) [] := Ow.nil _ _ _ _ _ _
  refine sx_ hf (r_alloc (cs := [vI 0, vI 0, vI 0, vI 0, (.slice none 0 0)]) 3 ze28 rfl hw) fun a v w hf hΦ => ?_
  obtain ⟨g3, ρ, rfl, hw, hE, o3⟩ := hΦ
  replace o1 := o1.ext hE
  replace o2 := o2.ext hE
  replace o4 := o4.ext hE
  refine s_ hf (r_assign hf rfl) fun a hf => ?_
  refine c_nt <| c_seq <| c_block <| c_seq <| c_region ?_
  refine s_ hf (r_load_agg ty28 hf rfl o1.cl rfl) fun a hf => ?_
  obtain ⟨x1, hx2, hF⟩ := of_bind hF
  refine st_fn 5 hw hf rfl rfl (by decide) (r_fn en74 hf rfl) (impl_IsScheme_ok (a0 := a0) (h0.now hw) hx2) fun a v w ρ hf hw hE hN hΦ => ?_
  obtain rfl := hΦ
  replace o1 := o1.ext hE
  replace o2 := o2.ext hE
  replace o4 := o4.ext hE
  replace o3 := o3.ext hE
  refine s_ hf (r_not hf rfl) fun a hf => ?_
  refine s_ hf (r_assign hf rfl) fun a hf => ?_
  refine c_nt ?_
  rcases of_ite hF with ⟨hb3, hF⟩ | ⟨hb3, hF⟩
  · refine c_ift hf rfl hb3 <| c_seq <| c_region ?_
    have o6 : Ow (kf cProd) 78 ρ w w0.heap.size 6 (.slice none 0 0) [] := Ow.nil _ _ _ _ _ _
    refine s_ hf (r_build_struct (pl := [(0, 1), (1, 1), (2, 1), (3, 1), (4, 1)]) (vs := []) (res := ([vI 0, vI 0, vI 0, vI 0, (.slice none 0 0)]).toArray) Try.underlying28 (by kernel_rfl) ze28 hf rfl rfl rfl) fun a hf => ?_
    refine sk_ hf (r_store_w (cs' := [vI 0, vI 0, vI 0, vI 0, (.slice none 0 0)]) hw o3 (by decide) ty28 rfl rfl (one_sch o6.ro.one) hf rfl rfl rfl) fun a w hf hΦ => ?_
    obtain ⟨hw, hA, o3⟩ := hΦ
    replace o1 := o1.adv hA (by decide)
    replace o2 := o2.adv hA (by decide)
    replace o4 := o4.adv hA (by decide)
    replace o6 := o6.adv hA (by decide)
    refine s_ hf (r_assign hf rfl) fun a hf => ?_
    refine c_nt <| c_retc ?_
    obtain rfl := Option.some.inj hF
    refine r_block <| r_then <| c_ret hf (res_ct Try.results26 ty28 hf rfl o3.cl rfl rfl) ?_
    exact ⟨_, rfl, hw.below, ⟨_, rfl, o6.out⟩⟩
  refine c_iff hf rfl hb3 <| c_seq ?_
  obtain ⟨s5, hT4, hG4⟩ := of_bind hF
  clear hF
  refine c_meet (fun (s5 : Bool) a w => ∃ ρ, Wd w0 ρ w ∧ Fr 99 a [(1, vI a1), (2, vI a2), (4, .pointer (some ((⟨g1, 0, none⟩ : Addr).add 0))), (7, .pointer (some ((⟨g2, 0, none⟩ : Addr).add 0))), (8, .pointer (some ((⟨g3, 0, none⟩ : Addr).add 0))), (18, .bool s5)] ∧ Va ρ w 1 g1 28 ([vI a0.p, vI a0.n, vI a0.m, vI a0.k, va0]) ∧ Va ρ w 2 g2 39 (cForm.enc a3) ∧ Va ρ w 3 g3 28 ([vI 0, vI 0, vI 0, vI 0, (.slice none 0 0)]) ∧ O78 ρ w w0 4 (.slice none 0 0) ([] : List Prod)) s5 ?_ ?_
  · have hF := hT4
    obtain ⟨x6, hx7, hF⟩ := of_bind hF
    rcases of_ite hF with ⟨hb8, hF⟩ | ⟨hb8, hF⟩
    · replace hf : Fr 99 a [(1, vI a1), (2, vI a2), (4, .pointer (some ((⟨g1, 0, none⟩ : Addr).add 0))), (7, .pointer (some ((⟨g2, 0, none⟩ : Addr).add 0))), (8, .pointer (some ((⟨g3, 0, none⟩ : Addr).add 0)))] := hf.sub ⟨rfl, rfl, rfl, rfl, rfl, trivial⟩
      refine c_drawL (h := 21) mixed (by kernel_rfl) (by kernel_rfl) (fun ρ w => Va ρ w 1 g1 28 ([vI a0.p, vI a0.n, vI a0.m, vI a0.k, va0]) ∧ Va ρ w 2 g2 39 (cForm.enc a3) ∧ Va ρ w 3 g3 28 ([vI 0, vI 0, vI 0, vI 0, (.slice none 0 0)]) ∧ O78 ρ w w0 4 (.slice none 0 0) ([] : List Prod)) ?_ [fun ρ w v => .agg ([vI a0.p, vI a0.n, vI a0.m, vI a0.k, va0]).toArray = v, fun ρ w v => vI a1 = v, fun ρ w v => ∃ v7, v7 = v ∧ O2 ρ w w0 7 v7 ([a1]), fun ρ w v => .bool x6 = v, fun ρ w v => .bool (!x6) = v, fun ρ w v => .bool (!x6) = v, fun ρ w v => undef = v, fun ρ w v => undef = v, fun ρ w v => .bool true = v, fun ρ w v => .bool true = v, fun ρ w v => undef = v, fun ρ w v => undef = v, fun ρ w v => .bool true = v, fun ρ w v => .bool true = v, fun ρ w v => undef = v, fun ρ w v => undef = v, fun ρ w v => undef = v, fun ρ w v => undef = v, fun ρ w v => undef = v, fun ρ w v => undef = v, fun ρ w v => undef = v] ?_ hw ⟨o1, o2, o3, o4⟩ hf ?_ ?_
      · intro ρ w ρ' w' hE hG
        obtain ⟨o1, o2, o3, o4⟩ := hG
        exact ⟨o1.ext hE, o2.ext hE, o3.ext hE, o4.ext hE⟩
      · exact LastsL.cons (fun _ _ _ _ _ _ h => h) <| LastsL.cons (fun _ _ _ _ _ _ h => h) <| LastsL.cons (fun _ _ _ _ _ hE h => by obtain ⟨v7, h, o7⟩ := h; exact ⟨_, h, o7.ext hE⟩) <| LastsL.cons (fun _ _ _ _ _ _ h => h) <| LastsL.cons (fun _ _ _ _ _ _ h => h) <| LastsL.cons (fun _ _ _ _ _ _ h => h) <| LastsL.cons (fun _ _ _ _ _ _ h => h) <| LastsL.cons (fun _ _ _ _ _ _ h => h) <| LastsL.cons (fun _ _ _ _ _ _ h => h) <| LastsL.cons (fun _ _ _ _ _ _ h => h) <| LastsL.cons (fun _ _ _ _ _ _ h => h) <| LastsL.cons (fun _ _ _ _ _ _ h => h) <| LastsL.cons (fun _ _ _ _ _ _ h => h) <| LastsL.cons (fun _ _ _ _ _ _ h => h) <| LastsL.cons (fun _ _ _ _ _ _ h => h) <| LastsL.cons (fun _ _ _ _ _ _ h => h) <| LastsL.cons (fun _ _ _ _ _ _ h => h) <| LastsL.cons (fun _ _ _ _ _ _ h => h) <| LastsL.cons (fun _ _ _ _ _ _ h => h) <| LastsL.cons (fun _ _ _ _ _ _ h => h) <| LastsL.cons (fun _ _ _ _ _ _ h => h) <| LastsL.nil
      · refine StepsB.cons ?_ <| StepsB.cons ?_ <| StepsB.cons ?_ <| StepsB.cons ?_ <| StepsB.cons ?_ <| StepsB.cons ?_ <| StepsB.cons ?_ <| StepsB.cons ?_ <| StepsB.cons ?_ <| StepsB.cons ?_ <| StepsB.cons ?_ <| StepsB.cons ?_ <| StepsB.cons ?_ <| StepsB.cons ?_ <| StepsB.cons ?_ <| StepsB.cons ?_ <| StepsB.cons ?_ <| StepsB.cons ?_ <| StepsB.cons ?_ <| StepsB.cons ?_ <| StepsB.cons ?_ <| StepsB.nil
        · intro ρ w a hw hG hf hd K hK
          obtain ⟨o1, o2, o3, o4⟩ := hG
          exact dv_ hK hw (wn rfl) (r_load_agg ty28 hf rfl o1.cl rfl) rfl
        · intro ρ w a hw hG hf hd K hK
          obtain ⟨o1, o2, o3, o4⟩ := hG
          exact dv_ hK hw (wn rfl) (r_move hf rfl) rfl
        · intro ρ w a hw hG hf hd K hK
          obtain ⟨o1, o2, o3, o4⟩ := hG
          obtain ⟨_, hf, rfl⟩ := got (hd 1 (by kernel_rfl)) hf
          refine dx_ hK hw (wn rfl) (r_lit (d := fI64) (xs := ([a1] : List Int)) (vs := [vI a1]) 7 Try.underlying61 el2 (Nat.le_of_ble_eq_true rfl) (Nat.le_of_ble_eq_true rfl) hw hf rfl rfl rfl) fun v7 w' hΦ => ?_
          obtain ⟨ρ, hw, hE, o7⟩ := hΦ
          exact ⟨_, hw, hE, ex_ <| an_ rfl <| o7⟩
        · intro ρ w a hw hG hf hd K hK
          obtain ⟨o1, o2, o3, o4⟩ := hG
          obtain ⟨_, hf, rfl⟩ := got (hd 0 (by kernel_rfl)) hf
          obtain ⟨_, hf, ⟨v7, rfl, o7⟩⟩ := got (hd 2 (by kernel_rfl)) hf
          refine dc_ hK hw (wn rfl) (r_fn en75 hf rfl) (impl_isIndex_ok (a0 := a0) (h0.now hw) o7.ro hx7) fun v w' hΦ => ?_
          obtain ⟨hb, hΦ⟩ := hΦ
          obtain rfl := hΦ
          have hE := Ext.new (ρ := ρ) 8 hb
          exact ⟨_, hw.new 8 hb, hE, rfl⟩
        · intro ρ w a hw hG hf hd K hK
          obtain ⟨o1, o2, o3, o4⟩ := hG
          obtain ⟨_, hf, rfl⟩ := got (hd 3 (by kernel_rfl)) hf
          exact dv_ hK hw (wn rfl) (r_not hf rfl) rfl
        · intro ρ w a hw hG hf hd K hK
          obtain ⟨o1, o2, o3, o4⟩ := hG
          obtain ⟨_, hf, rfl⟩ := got (hd 4 (by kernel_rfl)) hf
          exact dv_ hK hw (wn rfl) (r_move hf rfl) rfl
        · intro ρ w a hw hG hf hd K hK
          obtain ⟨o1, o2, o3, o4⟩ := hG
          obtain ⟨_, hf, rfl⟩ := got (hd 5 (by kernel_rfl)) hf
          exact do_ hK (b := true) hw hf rfl rfl rfl hb8 rfl rfl
        · intro ρ w a hw hG hf hd K hK
          obtain ⟨o1, o2, o3, o4⟩ := hG
          obtain ⟨_, hf, rfl⟩ := got (hd 5 (by kernel_rfl)) hf
          obtain ⟨_, hf, rfl⟩ := got (hd 6 (by kernel_rfl)) hf
          exact do_ hK (b := true) hw hf rfl rfl rfl hb8 rfl rfl
        · intro ρ w a hw hG hf hd K hK
          obtain ⟨o1, o2, o3, o4⟩ := hG
          obtain ⟨_, hf, rfl⟩ := got (hd 5 (by kernel_rfl)) hf
          obtain ⟨_, hf, rfl⟩ := got (hd 7 (by kernel_rfl)) hf
          exact dv_ hK hw (wn rfl) (r_pick (b := true) hf rfl hb8 rfl) rfl
        · intro ρ w a hw hG hf hd K hK
          obtain ⟨o1, o2, o3, o4⟩ := hG
          obtain ⟨_, hf, rfl⟩ := got (hd 8 (by kernel_rfl)) hf
          exact dv_ hK hw (wn rfl) (r_move hf rfl) rfl
        · intro ρ w a hw hG hf hd K hK
          obtain ⟨o1, o2, o3, o4⟩ := hG
          obtain ⟨_, hf, rfl⟩ := got (hd 9 (by kernel_rfl)) hf
          exact do_ hK (b := true) hw hf rfl rfl rfl rfl rfl rfl
        · intro ρ w a hw hG hf hd K hK
          obtain ⟨o1, o2, o3, o4⟩ := hG
          obtain ⟨_, hf, rfl⟩ := got (hd 9 (by kernel_rfl)) hf
          obtain ⟨_, hf, rfl⟩ := got (hd 10 (by kernel_rfl)) hf
          exact do_ hK (b := true) hw hf rfl rfl rfl rfl rfl rfl
        · intro ρ w a hw hG hf hd K hK
          obtain ⟨o1, o2, o3, o4⟩ := hG
          obtain ⟨_, hf, rfl⟩ := got (hd 9 (by kernel_rfl)) hf
          obtain ⟨_, hf, rfl⟩ := got (hd 11 (by kernel_rfl)) hf
          exact dv_ hK hw (wn rfl) (r_pick (b := true) hf rfl rfl rfl) rfl
        · intro ρ w a hw hG hf hd K hK
          obtain ⟨o1, o2, o3, o4⟩ := hG
          obtain ⟨_, hf, rfl⟩ := got (hd 12 (by kernel_rfl)) hf
          exact dv_ hK hw (wn rfl) (r_move hf rfl) rfl
        · intro ρ w a hw hG hf hd K hK
          obtain ⟨o1, o2, o3, o4⟩ := hG
          obtain ⟨_, hf, rfl⟩ := got (hd 13 (by kernel_rfl)) hf
          exact do_ hK (b := true) hw hf rfl rfl rfl rfl rfl rfl
        · intro ρ w a hw hG hf hd K hK
          obtain ⟨o1, o2, o3, o4⟩ := hG
          obtain ⟨_, hf, rfl⟩ := got (hd 13 (by kernel_rfl)) hf
          obtain ⟨_, hf, rfl⟩ := got (hd 14 (by kernel_rfl)) hf
          exact do_ hK (b := true) hw hf rfl rfl rfl rfl rfl rfl
        · intro ρ w a hw hG hf hd K hK
          obtain ⟨o1, o2, o3, o4⟩ := hG
          obtain ⟨_, hf, rfl⟩ := got (hd 13 (by kernel_rfl)) hf
          exact do_ hK (b := true) hw hf rfl rfl rfl rfl rfl rfl
        · intro ρ w a hw hG hf hd K hK
          obtain ⟨o1, o2, o3, o4⟩ := hG
          obtain ⟨_, hf, rfl⟩ := got (hd 13 (by kernel_rfl)) hf
          obtain ⟨_, hf, rfl⟩ := got (hd 16 (by kernel_rfl)) hf
          exact do_ hK (b := true) hw hf rfl rfl rfl rfl rfl rfl
        · intro ρ w a hw hG hf hd K hK
          obtain ⟨o1, o2, o3, o4⟩ := hG
          obtain ⟨_, hf, rfl⟩ := got (hd 13 (by kernel_rfl)) hf
          exact do_ hK (b := true) hw hf rfl rfl rfl rfl rfl rfl
        · intro ρ w a hw hG hf hd K hK
          obtain ⟨o1, o2, o3, o4⟩ := hG
          obtain ⟨_, hf, rfl⟩ := got (hd 13 (by kernel_rfl)) hf
          obtain ⟨_, hf, rfl⟩ := got (hd 17 (by kernel_rfl)) hf
          obtain ⟨_, hf, rfl⟩ := got (hd 18 (by kernel_rfl)) hf
          exact do_ hK (b := true) hw hf rfl rfl rfl rfl rfl rfl
        · intro ρ w a hw hG hf hd K hK
          obtain ⟨o1, o2, o3, o4⟩ := hG
          obtain ⟨_, hf, rfl⟩ := got (hd 13 (by kernel_rfl)) hf
          exact do_ hK (b := true) hw hf rfl rfl rfl rfl rfl rfl
      intro ρ w a hw hG hf hd
      obtain ⟨o1, o2, o3, o4⟩ := hG
      obtain ⟨_, hf, rfl⟩ := got (hd 13 (by decide)) hf
      obtain ⟨_, hf, rfl⟩ := got (hd 15 (by decide)) hf
      obtain ⟨_, hf, rfl⟩ := got (hd 19 (by decide)) hf
      obtain ⟨_, hf, rfl⟩ := got (hd 20 (by decide)) hf
      refine st_no (b := true) hf rfl rfl rfl rfl rfl (by decide) fun a hf => ?_
      refine st_no (b := true) hf rfl rfl rfl rfl rfl (by decide) fun a hf => ?_
      refine s_ hf (r_pick (b := true) hf rfl rfl rfl) fun a hf => ?_
      refine s_ hf (r_assign hf rfl) fun a hf => ?_
      refine c_nil ⟨rfl, ?_⟩
      obtain rfl := Option.some.inj hF
      exact ⟨_, hw, hf.sub ⟨rfl, rfl, rfl, rfl, rfl, rfl, trivial⟩, o1, o2, o3, o4⟩
    rcases of_ite hF with ⟨hb9, hF⟩ | ⟨hb9, hF⟩
    · replace hf : Fr 99 a [(1, vI a1), (2, vI a2), (4, .pointer (some ((⟨g1, 0, none⟩ : Addr).add 0))), (7, .pointer (some ((⟨g2, 0, none⟩ : Addr).add 0))), (8, .pointer (some ((⟨g3, 0, none⟩ : Addr).add 0)))] := hf.sub ⟨rfl, rfl, rfl, rfl, rfl, trivial⟩
      refine c_drawL (h := 21) mixed (by kernel_rfl) (by kernel_rfl) (fun ρ w => Va ρ w 1 g1 28 ([vI a0.p, vI a0.n, vI a0.m, vI a0.k, va0]) ∧ Va ρ w 2 g2 39 (cForm.enc a3) ∧ Va ρ w 3 g3 28 ([vI 0, vI 0, vI 0, vI 0, (.slice none 0 0)]) ∧ O78 ρ w w0 4 (.slice none 0 0) ([] : List Prod)) ?_ [fun ρ w v => .agg ([vI a0.p, vI a0.n, vI a0.m, vI a0.k, va0]).toArray = v, fun ρ w v => vI a1 = v, fun ρ w v => ∃ v7, v7 = v ∧ O2 ρ w w0 7 v7 ([a1]), fun ρ w v => .bool x6 = v, fun ρ w v => .bool (!x6) = v, fun ρ w v => .bool (!x6) = v, fun ρ w v => vI a2 = v, fun ρ w v => .bool (decide (a2 < 0)) = v, fun ρ w v => .bool (decide (a2 < 0)) = v, fun ρ w v => .bool (decide (a2 < 0)) = v, fun ρ w v => undef = v, fun ρ w v => undef = v, fun ρ w v => .bool true = v, fun ρ w v => .bool true = v, fun ρ w v => undef = v, fun ρ w v => undef = v, fun ρ w v => undef = v, fun ρ w v => undef = v, fun ρ w v => undef = v, fun ρ w v => undef = v, fun ρ w v => undef = v] ?_ hw ⟨o1, o2, o3, o4⟩ hf ?_ ?_
      · intro ρ w ρ' w' hE hG
        obtain ⟨o1, o2, o3, o4⟩ := hG
        exact ⟨o1.ext hE, o2.ext hE, o3.ext hE, o4.ext hE⟩
      · exact LastsL.cons (fun _ _ _ _ _ _ h => h) <| LastsL.cons (fun _ _ _ _ _ _ h => h) <| LastsL.cons (fun _ _ _ _ _ hE h => by obtain ⟨v7, h, o7⟩ := h; exact ⟨_, h, o7.ext hE⟩) <| LastsL.cons (fun _ _ _ _ _ _ h => h) <| LastsL.cons (fun _ _ _ _ _ _ h => h) <| LastsL.cons (fun _ _ _ _ _ _ h => h) <| LastsL.cons (fun _ _ _ _ _ _ h => h) <| LastsL.cons (fun _ _ _ _ _ _ h => h) <| LastsL.cons (fun _ _ _ _ _ _ h => h) <| LastsL.cons (fun _ _ _ _ _ _ h => h) <| LastsL.cons (fun _ _ _ _ _ _ h => h) <| LastsL.cons (fun _ _ _ _ _ _ h => h) <| LastsL.cons (fun _ _ _ _ _ _ h => h) <| LastsL.cons (fun _ _ _ _ _ _ h => h) <| LastsL.cons (fun _ _ _ _ _ _ h => h) <| LastsL.cons (fun _ _ _ _ _ _ h => h) <| LastsL.cons (fun _ _ _ _ _ _ h => h) <| LastsL.cons (fun _ _ _ _ _ _ h => h) <| LastsL.cons (fun _ _ _ _ _ _ h => h) <| LastsL.cons (fun _ _ _ _ _ _ h => h) <| LastsL.cons (fun _ _ _ _ _ _ h => h) <| LastsL.nil
      · refine StepsB.cons ?_ <| StepsB.cons ?_ <| StepsB.cons ?_ <| StepsB.cons ?_ <| StepsB.cons ?_ <| StepsB.cons ?_ <| StepsB.cons ?_ <| StepsB.cons ?_ <| StepsB.cons ?_ <| StepsB.cons ?_ <| StepsB.cons ?_ <| StepsB.cons ?_ <| StepsB.cons ?_ <| StepsB.cons ?_ <| StepsB.cons ?_ <| StepsB.cons ?_ <| StepsB.cons ?_ <| StepsB.cons ?_ <| StepsB.cons ?_ <| StepsB.cons ?_ <| StepsB.cons ?_ <| StepsB.nil
        · intro ρ w a hw hG hf hd K hK
          obtain ⟨o1, o2, o3, o4⟩ := hG
          exact dv_ hK hw (wn rfl) (r_load_agg ty28 hf rfl o1.cl rfl) rfl
        · intro ρ w a hw hG hf hd K hK
          obtain ⟨o1, o2, o3, o4⟩ := hG
          exact dv_ hK hw (wn rfl) (r_move hf rfl) rfl
        · intro ρ w a hw hG hf hd K hK
          obtain ⟨o1, o2, o3, o4⟩ := hG
          obtain ⟨_, hf, rfl⟩ := got (hd 1 (by kernel_rfl)) hf
          refine dx_ hK hw (wn rfl) (r_lit (d := fI64) (xs := ([a1] : List Int)) (vs := [vI a1]) 7 Try.underlying61 el2 (Nat.le_of_ble_eq_true rfl) (Nat.le_of_ble_eq_true rfl) hw hf rfl rfl rfl) fun v7 w' hΦ => ?_
          obtain ⟨ρ, hw, hE, o7⟩ := hΦ
          exact ⟨_, hw, hE, ex_ <| an_ rfl <| o7⟩
        · intro ρ w a hw hG hf hd K hK
          obtain ⟨o1, o2, o3, o4⟩ := hG
          obtain ⟨_, hf, rfl⟩ := got (hd 0 (by kernel_rfl)) hf
          obtain ⟨_, hf, ⟨v7, rfl, o7⟩⟩ := got (hd 2 (by kernel_rfl)) hf
          refine dc_ hK hw (wn rfl) (r_fn en75 hf rfl) (impl_isIndex_ok (a0 := a0) (h0.now hw) o7.ro hx7) fun v w' hΦ => ?_
          obtain ⟨hb, hΦ⟩ := hΦ
          obtain rfl := hΦ
          have hE := Ext.new (ρ := ρ) 8 hb
          exact ⟨_, hw.new 8 hb, hE, rfl⟩
        · intro ρ w a hw hG hf hd K hK
          obtain ⟨o1, o2, o3, o4⟩ := hG
          obtain ⟨_, hf, rfl⟩ := got (hd 3 (by kernel_rfl)) hf
          exact dv_ hK hw (wn rfl) (r_not hf rfl) rfl
        · intro ρ w a hw hG hf hd K hK
          obtain ⟨o1, o2, o3, o4⟩ := hG
          obtain ⟨_, hf, rfl⟩ := got (hd 4 (by kernel_rfl)) hf
          exact dv_ hK hw (wn rfl) (r_move hf rfl) rfl
        · intro ρ w a hw hG hf hd K hK
          obtain ⟨o1, o2, o3, o4⟩ := hG
          obtain ⟨_, hf, rfl⟩ := got (hd 5 (by kernel_rfl)) hf
          exact dv_ hK hw (wg (b := false) hf rfl rfl rfl hb8) (r_move hf rfl) rfl
        · intro ρ w a hw hG hf hd K hK
          obtain ⟨o1, o2, o3, o4⟩ := hG
          obtain ⟨_, hf, rfl⟩ := got (hd 5 (by kernel_rfl)) hf
          obtain ⟨_, hf, rfl⟩ := got (hd 6 (by kernel_rfl)) hf
          exact dv_ hK hw (wg (b := false) hf rfl rfl rfl hb8) (r_lss hf rfl rfl) rfl
        · intro ρ w a hw hG hf hd K hK
          obtain ⟨o1, o2, o3, o4⟩ := hG
          obtain ⟨_, hf, rfl⟩ := got (hd 5 (by kernel_rfl)) hf
          obtain ⟨_, hf, rfl⟩ := got (hd 7 (by kernel_rfl)) hf
          exact dv_ hK hw (wn rfl) (r_pick (b := false) hf rfl hb8 rfl) rfl
        · intro ρ w a hw hG hf hd K hK
          obtain ⟨o1, o2, o3, o4⟩ := hG
          obtain ⟨_, hf, rfl⟩ := got (hd 8 (by kernel_rfl)) hf
          exact dv_ hK hw (wn rfl) (r_move hf rfl) rfl
        · intro ρ w a hw hG hf hd K hK
          obtain ⟨o1, o2, o3, o4⟩ := hG
          obtain ⟨_, hf, rfl⟩ := got (hd 9 (by kernel_rfl)) hf
          exact do_ hK (b := true) hw hf rfl rfl rfl hb9 rfl rfl
        · intro ρ w a hw hG hf hd K hK
          obtain ⟨o1, o2, o3, o4⟩ := hG
          obtain ⟨_, hf, rfl⟩ := got (hd 9 (by kernel_rfl)) hf
          obtain ⟨_, hf, rfl⟩ := got (hd 10 (by kernel_rfl)) hf
          exact do_ hK (b := true) hw hf rfl rfl rfl hb9 rfl rfl
        · intro ρ w a hw hG hf hd K hK
          obtain ⟨o1, o2, o3, o4⟩ := hG
          obtain ⟨_, hf, rfl⟩ := got (hd 9 (by kernel_rfl)) hf
          obtain ⟨_, hf, rfl⟩ := got (hd 11 (by kernel_rfl)) hf
          exact dv_ hK hw (wn rfl) (r_pick (b := true) hf rfl hb9 rfl) rfl
        · intro ρ w a hw hG hf hd K hK
          obtain ⟨o1, o2, o3, o4⟩ := hG
          obtain ⟨_, hf, rfl⟩ := got (hd 12 (by kernel_rfl)) hf
          exact dv_ hK hw (wn rfl) (r_move hf rfl) rfl
        · intro ρ w a hw hG hf hd K hK
          obtain ⟨o1, o2, o3, o4⟩ := hG
          obtain ⟨_, hf, rfl⟩ := got (hd 13 (by kernel_rfl)) hf
          exact do_ hK (b := true) hw hf rfl rfl rfl rfl rfl rfl
        · intro ρ w a hw hG hf hd K hK
          obtain ⟨o1, o2, o3, o4⟩ := hG
          obtain ⟨_, hf, rfl⟩ := got (hd 13 (by kernel_rfl)) hf
          obtain ⟨_, hf, rfl⟩ := got (hd 14 (by kernel_rfl)) hf
          exact do_ hK (b := true) hw hf rfl rfl rfl rfl rfl rfl
        · intro ρ w a hw hG hf hd K hK
          obtain ⟨o1, o2, o3, o4⟩ := hG
          obtain ⟨_, hf, rfl⟩ := got (hd 13 (by kernel_rfl)) hf
          exact do_ hK (b := true) hw hf rfl rfl rfl rfl rfl rfl
        · intro ρ w a hw hG hf hd K hK
          obtain ⟨o1, o2, o3, o4⟩ := hG
          obtain ⟨_, hf, rfl⟩ := got (hd 13 (by kernel_rfl)) hf
          obtain ⟨_, hf, rfl⟩ := got (hd 16 (by kernel_rfl)) hf
          exact do_ hK (b := true) hw hf rfl rfl rfl rfl rfl rfl
        · intro ρ w a hw hG hf hd K hK
          obtain ⟨o1, o2, o3, o4⟩ := hG
          obtain ⟨_, hf, rfl⟩ := got (hd 13 (by kernel_rfl)) hf
          exact do_ hK (b := true) hw hf rfl rfl rfl rfl rfl rfl
        · intro ρ w a hw hG hf hd K hK
          obtain ⟨o1, o2, o3, o4⟩ := hG
          obtain ⟨_, hf, rfl⟩ := got (hd 13 (by kernel_rfl)) hf
          obtain ⟨_, hf, rfl⟩ := got (hd 17 (by kernel_rfl)) hf
          obtain ⟨_, hf, rfl⟩ := got (hd 18 (by kernel_rfl)) hf
          exact do_ hK (b := true) hw hf rfl rfl rfl rfl rfl rfl
        · intro ρ w a hw hG hf hd K hK
          obtain ⟨o1, o2, o3, o4⟩ := hG
          obtain ⟨_, hf, rfl⟩ := got (hd 13 (by kernel_rfl)) hf
          exact do_ hK (b := true) hw hf rfl rfl rfl rfl rfl rfl
      intro ρ w a hw hG hf hd
      obtain ⟨o1, o2, o3, o4⟩ := hG
      obtain ⟨_, hf, rfl⟩ := got (hd 13 (by decide)) hf
      obtain ⟨_, hf, rfl⟩ := got (hd 15 (by decide)) hf
      obtain ⟨_, hf, rfl⟩ := got (hd 19 (by decide)) hf
      obtain ⟨_, hf, rfl⟩ := got (hd 20 (by decide)) hf
      refine st_no (b := true) hf rfl rfl rfl rfl rfl (by decide) fun a hf => ?_
      refine st_no (b := true) hf rfl rfl rfl rfl rfl (by decide) fun a hf => ?_
      refine s_ hf (r_pick (b := true) hf rfl rfl rfl) fun a hf => ?_
      refine s_ hf (r_assign hf rfl) fun a hf => ?_
      refine c_nil ⟨rfl, ?_⟩
      obtain rfl := Option.some.inj hF
      exact ⟨_, hw, hf.sub ⟨rfl, rfl, rfl, rfl, rfl, rfl, trivial⟩, o1, o2, o3, o4⟩
    rcases of_ite hF with ⟨hb10, hF⟩ | ⟨hb10, hF⟩
    · replace hf : Fr 99 a [(1, vI a1), (2, vI a2), (4, .pointer (some ((⟨g1, 0, none⟩ : Addr).add 0))), (7, .pointer (some ((⟨g2, 0, none⟩ : Addr).add 0))), (8, .pointer (some ((⟨g3, 0, none⟩ : Addr).add 0)))] := hf.sub ⟨rfl, rfl, rfl, rfl, rfl, trivial⟩
      refine c_drawL (h := 21) mixed (by kernel_rfl) (by kernel_rfl) (fun ρ w => Va ρ w 1 g1 28 ([vI a0.p, vI a0.n, vI a0.m, vI a0.k, va0]) ∧ Va ρ w 2 g2 39 (cForm.enc a3) ∧ Va ρ w 3 g3 28 ([vI 0, vI 0, vI 0, vI 0, (.slice none 0 0)]) ∧ O78 ρ w w0 4 (.slice none 0 0) ([] : List Prod)) ?_ [fun ρ w v => .agg ([vI a0.p, vI a0.n, vI a0.m, vI a0.k, va0]).toArray = v, fun ρ w v => vI a1 = v, fun ρ w v => ∃ v7, v7 = v ∧ O2 ρ w w0 7 v7 ([a1]), fun ρ w v => .bool x6 = v, fun ρ w v => .bool (!x6) = v, fun ρ w v => .bool (!x6) = v, fun ρ w v => vI a2 = v, fun ρ w v => .bool (decide (a2 < 0)) = v, fun ρ w v => .bool (decide (a2 < 0)) = v, fun ρ w v => .bool (decide (a2 < 0)) = v, fun ρ w v => vI a2 = v, fun ρ w v => .bool (decide (2 < a2)) = v, fun ρ w v => .bool (decide (2 < a2)) = v, fun ρ w v => .bool (decide (2 < a2)) = v, fun ρ w v => undef = v, fun ρ w v => undef = v, fun ρ w v => undef = v, fun ρ w v => undef = v, fun ρ w v => undef = v, fun ρ w v => undef = v, fun ρ w v => undef = v] ?_ hw ⟨o1, o2, o3, o4⟩ hf ?_ ?_
      · intro ρ w ρ' w' hE hG
        obtain ⟨o1, o2, o3, o4⟩ := hG
        exact ⟨o1.ext hE, o2.ext hE, o3.ext hE, o4.ext hE⟩
      · exact LastsL.cons (fun _ _ _ _ _ _ h => h) <| LastsL.cons (fun _ _ _ _ _ _ h => h) <| LastsL.cons (fun _ _ _ _ _ hE h => by obtain ⟨v7, h, o7⟩ := h; exact ⟨_, h, o7.ext hE⟩) <| LastsL.cons (fun _ _ _ _ _ _ h => h) <| LastsL.cons (fun _ _ _ _ _ _ h => h) <| LastsL.cons (fun _ _ _ _ _ _ h => h) <| LastsL.cons (fun _ _ _ _ _ _ h => h) <| LastsL.cons (fun _ _ _ _ _ _ h => h) <| LastsL.cons (fun _ _ _ _ _ _ h => h) <| LastsL.cons (fun _ _ _ _ _ _ h => h) <| LastsL.cons (fun _ _ _ _ _ _ h => h) <| LastsL.cons (fun _ _ _ _ _ _ h => h) <| LastsL.cons (fun _ _ _ _ _ _ h => h) <| LastsL.cons (fun _ _ _ _ _ _ h => h) <| LastsL.cons (fun _ _ _ _ _ _ h => h) <| LastsL.cons (fun _ _ _ _ _ _ h => h) <| LastsL.cons (fun _ _ _ _ _ _ h => h) <| LastsL.cons (fun _ _ _ _ _ _ h => h) <| LastsL.cons (fun _ _ _ _ _ _ h => h) <| LastsL.cons (fun _ _ _ _ _ _ h => h) <| LastsL.cons (fun _ _ _ _ _ _ h => h) <| LastsL.nil
      · refine StepsB.cons ?_ <| StepsB.cons ?_ <| StepsB.cons ?_ <| StepsB.cons ?_ <| StepsB.cons ?_ <| StepsB.cons ?_ <| StepsB.cons ?_ <| StepsB.cons ?_ <| StepsB.cons ?_ <| StepsB.cons ?_ <| StepsB.cons ?_ <| StepsB.cons ?_ <| StepsB.cons ?_ <| StepsB.cons ?_ <| StepsB.cons ?_ <| StepsB.cons ?_ <| StepsB.cons ?_ <| StepsB.cons ?_ <| StepsB.cons ?_ <| StepsB.cons ?_ <| StepsB.cons ?_ <| StepsB.nil
        · intro ρ w a hw hG hf hd K hK
          obtain ⟨o1, o2, o3, o4⟩ := hG
          exact dv_ hK hw (wn rfl) (r_load_agg ty28 hf rfl o1.cl rfl) rfl
        · intro ρ w a hw hG hf hd K hK
          obtain ⟨o1, o2, o3, o4⟩ := hG
          exact dv_ hK hw (wn rfl) (r_move hf rfl) rfl
        · intro ρ w a hw hG hf hd K hK
          obtain ⟨o1, o2, o3, o4⟩ := hG
          obtain ⟨_, hf, rfl⟩ := got (hd 1 (by kernel_rfl)) hf
          refine dx_ hK hw (wn rfl) (r_lit (d := fI64) (xs := ([a1] : List Int)) (vs := [vI a1]) 7 Try.underlying61 el2 (Nat.le_of_ble_eq_true rfl) (Nat.le_of_ble_eq_true rfl) hw hf rfl rfl rfl) fun v7 w' hΦ => ?_
          obtain ⟨ρ, hw, hE, o7⟩ := hΦ
          exact ⟨_, hw, hE, ex_ <| an_ rfl <| o7⟩
        · intro ρ w a hw hG hf hd K hK
          obtain ⟨o1, o2, o3, o4⟩ := hG
          obtain ⟨_, hf, rfl⟩ := got (hd 0 (by kernel_rfl)) hf
          obtain ⟨_, hf, ⟨v7, rfl, o7⟩⟩ := got (hd 2 (by kernel_rfl)) hf
          refine dc_ hK hw (wn rfl) (r_fn en75 hf rfl) (impl_isIndex_ok (a0 := a0) (h0.now hw) o7.ro hx7) fun v w' hΦ => ?_
          obtain ⟨hb, hΦ⟩ := hΦ
          obtain rfl := hΦ
          have hE := Ext.new (ρ := ρ) 8 hb
          exact ⟨_, hw.new 8 hb, hE, rfl⟩
        · intro ρ w a hw hG hf hd K hK
          obtain ⟨o1, o2, o3, o4⟩ := hG
          obtain ⟨_, hf, rfl⟩ := got (hd 3 (by kernel_rfl)) hf
          exact dv_ hK hw (wn rfl) (r_not hf rfl) rfl
        · intro ρ w a hw hG hf hd K hK
          obtain ⟨o1, o2, o3, o4⟩ := hG
          obtain ⟨_, hf, rfl⟩ := got (hd 4 (by kernel_rfl)) hf
          exact dv_ hK hw (wn rfl) (r_move hf rfl) rfl
        · intro ρ w a hw hG hf hd K hK
          obtain ⟨o1, o2, o3, o4⟩ := hG
          obtain ⟨_, hf, rfl⟩ := got (hd 5 (by kernel_rfl)) hf
          exact dv_ hK hw (wg (b := false) hf rfl rfl rfl hb8) (r_move hf rfl) rfl
        · intro ρ w a hw hG hf hd K hK
          obtain ⟨o1, o2, o3, o4⟩ := hG
          obtain ⟨_, hf, rfl⟩ := got (hd 5 (by kernel_rfl)) hf
          obtain ⟨_, hf, rfl⟩ := got (hd 6 (by kernel_rfl)) hf
          exact dv_ hK hw (wg (b := false) hf rfl rfl rfl hb8) (r_lss hf rfl rfl) rfl
        · intro ρ w a hw hG hf hd K hK
          obtain ⟨o1, o2, o3, o4⟩ := hG
          obtain ⟨_, hf, rfl⟩ := got (hd 5 (by kernel_rfl)) hf
          obtain ⟨_, hf, rfl⟩ := got (hd 7 (by kernel_rfl)) hf
          exact dv_ hK hw (wn rfl) (r_pick (b := false) hf rfl hb8 rfl) rfl
        · intro ρ w a hw hG hf hd K hK
          obtain ⟨o1, o2, o3, o4⟩ := hG
          obtain ⟨_, hf, rfl⟩ := got (hd 8 (by kernel_rfl)) hf
          exact dv_ hK hw (wn rfl) (r_move hf rfl) rfl
        · intro ρ w a hw hG hf hd K hK
          obtain ⟨o1, o2, o3, o4⟩ := hG
          obtain ⟨_, hf, rfl⟩ := got (hd 9 (by kernel_rfl)) hf
          exact dv_ hK hw (wg (b := false) hf rfl rfl rfl hb9) (r_move hf rfl) rfl
        · intro ρ w a hw hG hf hd K hK
          obtain ⟨o1, o2, o3, o4⟩ := hG
          obtain ⟨_, hf, rfl⟩ := got (hd 9 (by kernel_rfl)) hf
          obtain ⟨_, hf, rfl⟩ := got (hd 10 (by kernel_rfl)) hf
          exact dv_ hK hw (wg (b := false) hf rfl rfl rfl hb9) (r_gtr hf rfl rfl) rfl
        · intro ρ w a hw hG hf hd K hK
          obtain ⟨o1, o2, o3, o4⟩ := hG
          obtain ⟨_, hf, rfl⟩ := got (hd 9 (by kernel_rfl)) hf
          obtain ⟨_, hf, rfl⟩ := got (hd 11 (by kernel_rfl)) hf
          exact dv_ hK hw (wn rfl) (r_pick (b := false) hf rfl hb9 rfl) rfl
        · intro ρ w a hw hG hf hd K hK
          obtain ⟨o1, o2, o3, o4⟩ := hG
          obtain ⟨_, hf, rfl⟩ := got (hd 12 (by kernel_rfl)) hf
          exact dv_ hK hw (wn rfl) (r_move hf rfl) rfl
        · intro ρ w a hw hG hf hd K hK
          obtain ⟨o1, o2, o3, o4⟩ := hG
          obtain ⟨_, hf, rfl⟩ := got (hd 13 (by kernel_rfl)) hf
          exact do_ hK (b := true) hw hf rfl rfl rfl hb10 rfl rfl
        · intro ρ w a hw hG hf hd K hK
          obtain ⟨o1, o2, o3, o4⟩ := hG
          obtain ⟨_, hf, rfl⟩ := got (hd 13 (by kernel_rfl)) hf
          obtain ⟨_, hf, rfl⟩ := got (hd 14 (by kernel_rfl)) hf
          exact do_ hK (b := true) hw hf rfl rfl rfl hb10 rfl rfl
        · intro ρ w a hw hG hf hd K hK
          obtain ⟨o1, o2, o3, o4⟩ := hG
          obtain ⟨_, hf, rfl⟩ := got (hd 13 (by kernel_rfl)) hf
          exact do_ hK (b := true) hw hf rfl rfl rfl hb10 rfl rfl
        · intro ρ w a hw hG hf hd K hK
          obtain ⟨o1, o2, o3, o4⟩ := hG
          obtain ⟨_, hf, rfl⟩ := got (hd 13 (by kernel_rfl)) hf
          obtain ⟨_, hf, rfl⟩ := got (hd 16 (by kernel_rfl)) hf
          exact do_ hK (b := true) hw hf rfl rfl rfl hb10 rfl rfl
        · intro ρ w a hw hG hf hd K hK
          obtain ⟨o1, o2, o3, o4⟩ := hG
          obtain ⟨_, hf, rfl⟩ := got (hd 13 (by kernel_rfl)) hf
          exact do_ hK (b := true) hw hf rfl rfl rfl hb10 rfl rfl
        · intro ρ w a hw hG hf hd K hK
          obtain ⟨o1, o2, o3, o4⟩ := hG
          obtain ⟨_, hf, rfl⟩ := got (hd 13 (by kernel_rfl)) hf
          obtain ⟨_, hf, rfl⟩ := got (hd 17 (by kernel_rfl)) hf
          obtain ⟨_, hf, rfl⟩ := got (hd 18 (by kernel_rfl)) hf
          exact do_ hK (b := true) hw hf rfl rfl rfl hb10 rfl rfl
        · intro ρ w a hw hG hf hd K hK
          obtain ⟨o1, o2, o3, o4⟩ := hG
          obtain ⟨_, hf, rfl⟩ := got (hd 13 (by kernel_rfl)) hf
          exact do_ hK (b := true) hw hf rfl rfl rfl hb10 rfl rfl
      intro ρ w a hw hG hf hd
      obtain ⟨o1, o2, o3, o4⟩ := hG
      obtain ⟨_, hf, rfl⟩ := got (hd 13 (by decide)) hf
      obtain ⟨_, hf, rfl⟩ := got (hd 15 (by decide)) hf
      obtain ⟨_, hf, rfl⟩ := got (hd 19 (by decide)) hf
      obtain ⟨_, hf, rfl⟩ := got (hd 20 (by decide)) hf
      refine st_no (b := true) hf rfl rfl rfl hb10 rfl (by decide) fun a hf => ?_
      refine st_no (b := true) hf rfl rfl rfl hb10 rfl (by decide) fun a hf => ?_
      refine s_ hf (r_pick (b := true) hf rfl hb10 rfl) fun a hf => ?_
      refine s_ hf (r_assign hf rfl) fun a hf => ?_
      refine c_nil ⟨rfl, ?_⟩
      obtain rfl := Option.some.inj hF
      exact ⟨_, hw, hf.sub ⟨rfl, rfl, rfl, rfl, rfl, rfl, trivial⟩, o1, o2, o3, o4⟩
    obtain ⟨x11, hx12, hF⟩ := of_bind hF
    obtain ⟨hc13, hF⟩ := of_guard hF
    replace hf : Fr 99 a [(1, vI a1), (2, vI a2), (4, .pointer (some ((⟨g1, 0, none⟩ : Addr).add 0))), (7, .pointer (some ((⟨g2, 0, none⟩ : Addr).add 0))), (8, .pointer (some ((⟨g3, 0, none⟩ : Addr).add 0)))] := hf.sub ⟨rfl, rfl, rfl, rfl, rfl, trivial⟩
    refine c_drawL (h := 21) mixed (by kernel_rfl) (by kernel_rfl) (fun ρ w => Va ρ w 1 g1 28 ([vI a0.p, vI a0.n, vI a0.m, vI a0.k, va0]) ∧ Va ρ w 2 g2 39 (cForm.enc a3) ∧ Va ρ w 3 g3 28 ([vI 0, vI 0, vI 0, vI 0, (.slice none 0 0)]) ∧ O78 ρ w w0 4 (.slice none 0 0) ([] : List Prod)) ?_ [fun ρ w v => .agg ([vI a0.p, vI a0.n, vI a0.m, vI a0.k, va0]).toArray = v, fun ρ w v => vI a1 = v, fun ρ w v => ∃ v7, v7 = v ∧ O2 ρ w w0 7 v7 ([a1]), fun ρ w v => .bool x6 = v, fun ρ w v => .bool (!x6) = v, fun ρ w v => .bool (!x6) = v, fun ρ w v => vI a2 = v, fun ρ w v => .bool (decide (a2 < 0)) = v, fun ρ w v => .bool (decide (a2 < 0)) = v, fun ρ w v => .bool (decide (a2 < 0)) = v, fun ρ w v => vI a2 = v, fun ρ w v => .bool (decide (2 < a2)) = v, fun ρ w v => .bool (decide (2 < a2)) = v, fun ρ w v => .bool (decide (2 < a2)) = v, fun ρ w v => .pointer (some ((⟨g1, 0, none⟩ : Addr).add (0 + 0))) = v, fun ρ w v => vI a0.p = v, fun ρ w v => .agg ([vI a0.p, vI a0.n, vI a0.m, vI a0.k, va0]).toArray = v, fun ρ w v => .agg (cVec3.enc x11).toArray = v, fun ρ w v => vI a2 = v, fun ρ w v => vI (vg 0 x11 a2) = v, fun ρ w v => .agg (cForm.enc a3).toArray = v] ?_ hw ⟨o1, o2, o3, o4⟩ hf ?_ ?_
    · intro ρ w ρ' w' hE hG
      obtain ⟨o1, o2, o3, o4⟩ := hG
      exact ⟨o1.ext hE, o2.ext hE, o3.ext hE, o4.ext hE⟩
    · exact LastsL.cons (fun _ _ _ _ _ _ h => h) <| LastsL.cons (fun _ _ _ _ _ _ h => h) <| LastsL.cons (fun _ _ _ _ _ hE h => by obtain ⟨v7, h, o7⟩ := h; exact ⟨_, h, o7.ext hE⟩) <| LastsL.cons (fun _ _ _ _ _ _ h => h) <| LastsL.cons (fun _ _ _ _ _ _ h => h) <| LastsL.cons (fun _ _ _ _ _ _ h => h) <| LastsL.cons (fun _ _ _ _ _ _ h => h) <| LastsL.cons (fun _ _ _ _ _ _ h => h) <| LastsL.cons (fun _ _ _ _ _ _ h => h) <| LastsL.cons (fun _ _ _ _ _ _ h => h) <| LastsL.cons (fun _ _ _ _ _ _ h => h) <| LastsL.cons (fun _ _ _ _ _ _ h => h) <| LastsL.cons (fun _ _ _ _ _ _ h => h) <| LastsL.cons (fun _ _ _ _ _ _ h => h) <| LastsL.cons (fun _ _ _ _ _ _ h => h) <| LastsL.cons (fun _ _ _ _ _ _ h => h) <| LastsL.cons (fun _ _ _ _ _ _ h => h) <| LastsL.cons (fun _ _ _ _ _ _ h => h) <| LastsL.cons (fun _ _ _ _ _ _ h => h) <| LastsL.cons (fun _ _ _ _ _ _ h => h) <| LastsL.cons (fun _ _ _ _ _ _ h => h) <| LastsL.nil
    · refine StepsB.cons ?_ <| StepsB.cons ?_ <| StepsB.cons ?_ <| StepsB.cons ?_ <| StepsB.cons ?_ <| StepsB.cons ?_ <| StepsB.cons ?_ <| StepsB.cons ?_ <| StepsB.cons ?_ <| StepsB.cons ?_ <| StepsB.cons ?_ <| StepsB.cons ?_ <| StepsB.cons ?_ <| StepsB.cons ?_ <| StepsB.cons ?_ <| StepsB.cons ?_ <| StepsB.cons ?_ <| StepsB.cons ?_ <| StepsB.cons ?_ <| StepsB.cons ?_ <| StepsB.cons ?_ <| StepsB.nil
      · intro ρ w a hw hG hf hd K hK
        obtain ⟨o1, o2, o3, o4⟩ := hG
        exact dv_ hK hw (wn rfl) (r_load_agg ty28 hf rfl o1.cl rfl) rfl
      · intro ρ w a hw hG hf hd K hK
        obtain ⟨o1, o2, o3, o4⟩ := hG
        exact dv_ hK hw (wn rfl) (r_move hf rfl) rfl
      · intro ρ w a hw hG hf hd K hK
        obtain ⟨o1, o2, o3, o4⟩ := hG
        obtain ⟨_, hf, rfl⟩ := got (hd 1 (by kernel_rfl)) hf
        refine dx_ hK hw (wn rfl) (r_lit (d := fI64) (xs := ([a1] : List Int)) (vs := [vI a1]) 7 Try.underlying61 el2 (Nat.le_of_ble_eq_true rfl) (Nat.le_of_ble_eq_true rfl) hw hf rfl rfl rfl) fun v7 w' hΦ => ?_
        obtain ⟨ρ, hw, hE, o7⟩ := hΦ
        exact ⟨_, hw, hE, ex_ <| an_ rfl <| o7⟩
      · intro ρ w a hw hG hf hd K hK
        obtain ⟨o1, o2, o3, o4⟩ := hG
        obtain ⟨_, hf, rfl⟩ := got (hd 0 (by kernel_rfl)) hf
        obtain ⟨_, hf, ⟨v7, rfl, o7⟩⟩ := got (hd 2 (by kernel_rfl)) hf
        refine dc_ hK hw (wn rfl) (r_fn en75 hf rfl) (impl_isIndex_ok (a0 := a0) (h0.now hw) o7.ro hx7) fun v w' hΦ => ?_
        obtain ⟨hb, hΦ⟩ := hΦ
        obtain rfl := hΦ
        have hE := Ext.new (ρ := ρ) 8 hb
        exact ⟨_, hw.new 8 hb, hE, rfl⟩
      · intro ρ w a hw hG hf hd K hK
        obtain ⟨o1, o2, o3, o4⟩ := hG
        obtain ⟨_, hf, rfl⟩ := got (hd 3 (by kernel_rfl)) hf
        exact dv_ hK hw (wn rfl) (r_not hf rfl) rfl
      · intro ρ w a hw hG hf hd K hK
        obtain ⟨o1, o2, o3, o4⟩ := hG
        obtain ⟨_, hf, rfl⟩ := got (hd 4 (by kernel_rfl)) hf
        exact dv_ hK hw (wn rfl) (r_move hf rfl) rfl
      · intro ρ w a hw hG hf hd K hK
        obtain ⟨o1, o2, o3, o4⟩ := hG
        obtain ⟨_, hf, rfl⟩ := got (hd 5 (by kernel_rfl)) hf
        exact dv_ hK hw (wg (b := false) hf rfl rfl rfl hb8) (r_move hf rfl) rfl
      · intro ρ w a hw hG hf hd K hK
        obtain ⟨o1, o2, o3, o4⟩ := hG
        obtain ⟨_, hf, rfl⟩ := got (hd 5 (by kernel_rfl)) hf
        obtain ⟨_, hf, rfl⟩ := got (hd 6 (by kernel_rfl)) hf
        exact dv_ hK hw (wg (b := false) hf rfl rfl rfl hb8) (r_lss hf rfl rfl) rfl
      · intro ρ w a hw hG hf hd K hK
        obtain ⟨o1, o2, o3, o4⟩ := hG
        obtain ⟨_, hf, rfl⟩ := got (hd 5 (by kernel_rfl)) hf
        obtain ⟨_, hf, rfl⟩ := got (hd 7 (by kernel_rfl)) hf
        exact dv_ hK hw (wn rfl) (r_pick (b := false) hf rfl hb8 rfl) rfl
      · intro ρ w a hw hG hf hd K hK
        obtain ⟨o1, o2, o3, o4⟩ := hG
        obtain ⟨_, hf, rfl⟩ := got (hd 8 (by kernel_rfl)) hf
        exact dv_ hK hw (wn rfl) (r_move hf rfl) rfl
      · intro ρ w a hw hG hf hd K hK
        obtain ⟨o1, o2, o3, o4⟩ := hG
        obtain ⟨_, hf, rfl⟩ := got (hd 9 (by kernel_rfl)) hf
        exact dv_ hK hw (wg (b := false) hf rfl rfl rfl hb9) (r_move hf rfl) rfl
      · intro ρ w a hw hG hf hd K hK
        obtain ⟨o1, o2, o3, o4⟩ := hG
        obtain ⟨_, hf, rfl⟩ := got (hd 9 (by kernel_rfl)) hf
        obtain ⟨_, hf, rfl⟩ := got (hd 10 (by kernel_rfl)) hf
        exact dv_ hK hw (wg (b := false) hf rfl rfl rfl hb9) (r_gtr hf rfl rfl) rfl
      · intro ρ w a hw hG hf hd K hK
        obtain ⟨o1, o2, o3, o4⟩ := hG
        obtain ⟨_, hf, rfl⟩ := got (hd 9 (by kernel_rfl)) hf
        obtain ⟨_, hf, rfl⟩ := got (hd 11 (by kernel_rfl)) hf
        exact dv_ hK hw (wn rfl) (r_pick (b := false) hf rfl hb9 rfl) rfl
      · intro ρ w a hw hG hf hd K hK
        obtain ⟨o1, o2, o3, o4⟩ := hG
        obtain ⟨_, hf, rfl⟩ := got (hd 12 (by kernel_rfl)) hf
        exact dv_ hK hw (wn rfl) (r_move hf rfl) rfl
      · intro ρ w a hw hG hf hd K hK
        obtain ⟨o1, o2, o3, o4⟩ := hG
        obtain ⟨_, hf, rfl⟩ := got (hd 13 (by kernel_rfl)) hf
        exact dv_ hK hw (wg (b := false) hf rfl rfl rfl hb10) (r_fa fa28_0 hf rfl) rfl
      · intro ρ w a hw hG hf hd K hK
        obtain ⟨o1, o2, o3, o4⟩ := hG
        obtain ⟨_, hf, rfl⟩ := got (hd 13 (by kernel_rfl)) hf
        obtain ⟨_, hf, rfl⟩ := got (hd 14 (by kernel_rfl)) hf
        exact dv_ hK hw (wg (b := false) hf rfl rfl rfl hb10) (r_load_cell ty2 hf rfl (o1.cl.at_ 0 _ rfl)) rfl
      · intro ρ w a hw hG hf hd K hK
        obtain ⟨o1, o2, o3, o4⟩ := hG
        obtain ⟨_, hf, rfl⟩ := got (hd 13 (by kernel_rfl)) hf
        exact dv_ hK hw (wg (b := false) hf rfl rfl rfl hb10) (r_load_agg ty28 hf rfl o1.cl rfl) rfl
      · intro ρ w a hw hG hf hd K hK
        obtain ⟨o1, o2, o3, o4⟩ := hG
        obtain ⟨_, hf, rfl⟩ := got (hd 13 (by kernel_rfl)) hf
        obtain ⟨_, hf, rfl⟩ := got (hd 16 (by kernel_rfl)) hf
        refine dc_ hK hw (wg (b := false) hf rfl rfl rfl hb10) (r_fn en86 hf rfl) (impl_placesOf_ok (a0 := a0) (h0.now hw) hx12) fun v w' hΦ => ?_
        obtain ⟨hb, hΦ⟩ := hΦ
        obtain rfl := hΦ
        have hE := Ext.new (ρ := ρ) 9 hb
        exact ⟨_, hw.new 9 hb, hE, rfl⟩
      · intro ρ w a hw hG hf hd K hK
        obtain ⟨o1, o2, o3, o4⟩ := hG
        obtain ⟨_, hf, rfl⟩ := got (hd 13 (by kernel_rfl)) hf
        exact dv_ hK hw (wg (b := false) hf rfl rfl rfl hb10) (r_move hf rfl) rfl
      · intro ρ w a hw hG hf hd K hK
        obtain ⟨o1, o2, o3, o4⟩ := hG
        obtain ⟨_, hf, rfl⟩ := got (hd 13 (by kernel_rfl)) hf
        obtain ⟨_, hf, rfl⟩ := got (hd 17 (by kernel_rfl)) hf
        obtain ⟨_, hf, rfl⟩ := got (hd 18 (by kernel_rfl)) hf
        exact dv_ hK hw (wg (b := false) hf rfl rfl rfl hb10) (r_index_lc Try.underlying89 ty2 hf rfl rfl hc13.1 hc13.2 (Lens.vec 0 fI64 a2 hc13.1 hc13.2) rfl) rfl
      · intro ρ w a hw hG hf hd K hK
        obtain ⟨o1, o2, o3, o4⟩ := hG
        obtain ⟨_, hf, rfl⟩ := got (hd 13 (by kernel_rfl)) hf
        exact dv_ hK hw (wg (b := false) hf rfl rfl rfl hb10) (r_load_agg ty39 hf rfl o2.cl (cForm.len _)) rfl
    intro ρ w a hw hG hf hd
    obtain ⟨o1, o2, o3, o4⟩ := hG
    obtain ⟨_, hf, rfl⟩ := got (hd 13 (by decide)) hf
    obtain ⟨_, hf, rfl⟩ := got (hd 15 (by decide)) hf
    obtain ⟨_, hf, rfl⟩ := got (hd 19 (by decide)) hf
    obtain ⟨_, hf, rfl⟩ := got (hd 20 (by decide)) hf
    obtain ⟨x14, hx15, hF⟩ := of_bind hF
    refine st_gfn (b := false) 10 hw hf rfl rfl rfl hb10 rfl (by decide) (r_fn en85 hf rfl) (impl_isForm_ok  hx15) fun a v w ρ hf hw hE hN hΦ => ?_
    obtain rfl := hΦ
    replace o1 := o1.ext hE
    replace o2 := o2.ext hE
    replace o3 := o3.ext hE
    replace o4 := o4.ext hE
    refine st_g (b := false) hf rfl rfl rfl hb10 rfl (by decide) (r_not hf rfl) fun a hf => ?_
    refine s_ hf (r_pick (b := false) hf rfl hb10 rfl) fun a hf => ?_
    refine s_ hf (r_assign hf rfl) fun a hf => ?_
    refine c_nil ⟨rfl, ?_⟩
    obtain rfl := Option.some.inj hF
    exact ⟨_, hw, hf.sub ⟨rfl, rfl, rfl, rfl, rfl, rfl, trivial⟩, o1, o2, o3, o4⟩
  rintro a w ⟨ρ, hw, hf, o1, o2, o3, o4⟩
  have hF := hG4
  refine n_then ?_
  rcases of_ite hF with ⟨hb16, hF⟩ | ⟨hb16, hF⟩
  · refine c_ift hf rfl hb16 <| c_seq <| c_region ?_
    have o11 : Ow (kf cProd) 78 ρ w w0.heap.size 11 (.slice none 0 0) [] := Ow.nil _ _ _ _ _ _
    refine s_ hf (r_build_struct (pl := [(0, 1), (1, 1), (2, 1), (3, 1), (4, 1)]) (vs := []) (res := ([vI 0, vI 0, vI 0, vI 0, (.slice none 0 0)]).toArray) Try.underlying28 (by kernel_rfl) ze28 hf rfl rfl rfl) fun a hf => ?_
    refine sk_ hf (r_store_w (cs' := [vI 0, vI 0, vI 0, vI 0, (.slice none 0 0)]) hw o3 (by decide) ty28 rfl rfl (one_sch o11.ro.one) hf rfl rfl rfl) fun a w hf hΦ => ?_
    obtain ⟨hw, hA, o3⟩ := hΦ
    replace o1 := o1.adv hA (by decide)
    replace o2 := o2.adv hA (by decide)
    replace o4 := o4.adv hA (by decide)
    replace o11 := o11.adv hA (by decide)
    refine s_ hf (r_assign hf rfl) fun a hf => ?_
    refine c_nt <| c_retc ?_
    obtain rfl := Option.some.inj hF
    refine r_block <| r_then <| c_ret hf (res_ct Try.results26 ty28 hf rfl o3.cl rfl rfl) ?_
    exact ⟨_, rfl, hw.below, ⟨_, rfl, o11.out⟩⟩
  refine c_iff hf rfl hb16 <| c_skip <| n_block <| n_then <| c_seq <| c_region ?_
  refine s_ hf (r_fa fa28_4 hf rfl) fun a hf => ?_
  refine s_ hf (r_load_cell ty26 hf rfl (o1.cl.at_ 4 _ rfl)) fun a hf => ?_
  refine s_ hf (r_move hf rfl) fun a hf => ?_
  obtain ⟨hc17, hF⟩ := of_guard hF
  obtain ⟨ad18, c18, he18, hl18⟩ := Ro.el cProd h0 zProd hc17.1 hc17.2
  refine s_ hf (r_idx Try.underlying26 sz78 hf rfl ⟨_, he18⟩ rfl hc17.1 hc17.2) fun a hf => ?_
  refine s_ hf (r_load_agg ty78 hf rfl (hl18.below hw.below) (cProd.len _)) fun a hf => ?_
  obtain ⟨x19, hx20, hF⟩ := of_bind hF
  refine st_fn 12 hw hf rfl rfl (by decide) (r_fn en87 hf rfl) (impl_factors_ok  hx20) fun a v w ρ hf hw hE hN hΦ => ?_
  obtain rfl := hΦ
  replace o1 := o1.ext hE
  replace o2 := o2.ext hE
  replace o3 := o3.ext hE
  replace o4 := o4.ext hE
  refine sx_ hf (r_alloc (cs := cForms.enc zForms) 13 ze91 rfl hw) fun a v w hf hΦ => ?_
  obtain ⟨g13, ρ, rfl, hw, hE, o13⟩ := hΦ
  replace o1 := o1.ext hE
  replace o2 := o2.ext hE
  replace o3 := o3.ext hE
  replace o4 := o4.ext hE
  refine sk_ hf (r_store_w (cs' := cForms.enc x19) hw o13 (by decide) ty91 (cForms.len _) (cForms.len _) (cForms.one _) hf rfl rfl rfl) fun a w hf hΦ => ?_
  obtain ⟨hw, hA, o13⟩ := hΦ
  replace o1 := o1.adv hA (by decide)
  replace o2 := o2.adv hA (by decide)
  replace o3 := o3.adv hA (by decide)
  replace o4 := o4.adv hA (by decide)
  refine c_nt <| c_seq <| c_region ?_
  refine s_ hf (r_load_agg ty91 hf rfl o13.cl (cForms.len _)) fun a hf => ?_
  refine sx_ hf (r_alloc (cs := cForms.enc zForms) 14 ze91 rfl hw) fun a v w hf hΦ => ?_
  obtain ⟨g14, ρ, rfl, hw, hE, o14⟩ := hΦ
  replace o1 := o1.ext hE
  replace o2 := o2.ext hE
  replace o3 := o3.ext hE
  replace o4 := o4.ext hE
  replace o13 := o13.ext hE
  refine sk_ hf (r_store_w (cs' := cForms.enc x19) hw o14 (by decide) ty91 (cForms.len _) (cForms.len _) (cForms.one _) hf rfl rfl rfl) fun a w hf hΦ => ?_
  obtain ⟨hw, hA, o14⟩ := hΦ
  replace o1 := o1.adv hA (by decide)
  replace o2 := o2.adv hA (by decide)
  replace o3 := o3.adv hA (by decide)
  replace o4 := o4.adv hA (by decide)
  replace o13 := o13.adv hA (by decide)
  refine c_nt <| c_seq <| c_block <| c_seq ?_
  obtain ⟨s22, hT21, hG21⟩ := of_bind hF
  clear hF
  refine c_meet (fun (s22 : Bool) a w => ∃ ρ, Wd w0 ρ w ∧ Fr 99 a [(1, vI a1), (2, vI a2), (4, .pointer (some ((⟨g1, 0, none⟩ : Addr).add 0))), (7, .pointer (some ((⟨g2, 0, none⟩ : Addr).add 0))), (8, .pointer (some ((⟨g3, 0, none⟩ : Addr).add 0))), (10, .pointer (some ((⟨g13, 0, none⟩ : Addr).add 0))), (11, .pointer (some ((⟨g14, 0, none⟩ : Addr).add 0))), (51, .bool s22)] ∧ Va ρ w 1 g1 28 ([vI a0.p, vI a0.n, vI a0.m, vI a0.k, va0]) ∧ Va ρ w 2 g2 39 (cForm.enc a3) ∧ Va ρ w 3 g3 28 ([vI 0, vI 0, vI 0, vI 0, (.slice none 0 0)]) ∧ O78 ρ w w0 4 (.slice none 0 0) ([] : List Prod) ∧ Va ρ w 13 g13 91 (cForms.enc x19) ∧ Va ρ w 14 g14 91 (cForms.enc x19)) s22 ?_ ?_
  · have hF := hT21
    rcases of_ite hF with ⟨hb23, hF⟩ | ⟨hb23, hF⟩
    · replace hf : Fr 99 a [(1, vI a1), (2, vI a2), (4, .pointer (some ((⟨g1, 0, none⟩ : Addr).add 0))), (7, .pointer (some ((⟨g2, 0, none⟩ : Addr).add 0))), (8, .pointer (some ((⟨g3, 0, none⟩ : Addr).add 0))), (10, .pointer (some ((⟨g13, 0, none⟩ : Addr).add 0))), (11, .pointer (some ((⟨g14, 0, none⟩ : Addr).add 0)))] := hf.sub ⟨rfl, rfl, rfl, rfl, rfl, rfl, rfl, trivial⟩
      refine c_drawL (h := 8) mixed (by kernel_rfl) (by kernel_rfl) (fun ρ w => Va ρ w 1 g1 28 ([vI a0.p, vI a0.n, vI a0.m, vI a0.k, va0]) ∧ Va ρ w 2 g2 39 (cForm.enc a3) ∧ Va ρ w 3 g3 28 ([vI 0, vI 0, vI 0, vI 0, (.slice none 0 0)]) ∧ O78 ρ w w0 4 (.slice none 0 0) ([] : List Prod) ∧ Va ρ w 13 g13 91 (cForms.enc x19) ∧ Va ρ w 14 g14 91 (cForms.enc x19)) ?_ [fun ρ w v => .agg (cForm.enc a3).toArray = v, fun ρ w v => .agg (cForm.enc zForm).toArray = v, fun ρ w v => .bool (decide (a3 = zForm)) = v, fun ρ w v => .bool (decide (a3 = zForm)) = v, fun ρ w v => undef = v, fun ρ w v => undef = v, fun ρ w v => undef = v, fun ρ w v => undef = v] ?_ hw ⟨o1, o2, o3, o4, o13, o14⟩ hf ?_ ?_
      · intro ρ w ρ' w' hE hG
        obtain ⟨o1, o2, o3, o4, o13, o14⟩ := hG
        exact ⟨o1.ext hE, o2.ext hE, o3.ext hE, o4.ext hE, o13.ext hE, o14.ext hE⟩
      · exact LastsL.cons (fun _ _ _ _ _ _ h => h) <| LastsL.cons (fun _ _ _ _ _ _ h => h) <| LastsL.cons (fun _ _ _ _ _ _ h => h) <| LastsL.cons (fun _ _ _ _ _ _ h => h) <| LastsL.cons (fun _ _ _ _ _ _ h => h) <| LastsL.cons (fun _ _ _ _ _ _ h => h) <| LastsL.cons (fun _ _ _ _ _ _ h => h) <| LastsL.cons (fun _ _ _ _ _ _ h => h) <| LastsL.nil
      · refine StepsB.cons ?_ <| StepsB.cons ?_ <| StepsB.cons ?_ <| StepsB.cons ?_ <| StepsB.cons ?_ <| StepsB.cons ?_ <| StepsB.cons ?_ <| StepsB.cons ?_ <| StepsB.nil
        · intro ρ w a hw hG hf hd K hK
          obtain ⟨o1, o2, o3, o4, o13, o14⟩ := hG
          exact dv_ hK hw (wn rfl) (r_load_agg ty39 hf rfl o2.cl (cForm.len _)) rfl
        · intro ρ w a hw hG hf hd K hK
          obtain ⟨o1, o2, o3, o4, o13, o14⟩ := hG
          exact dv_ hK hw (wn rfl) (r_build_arr (vs := []) (res := (cForm.enc zForm).toArray) Try.underlying39 sz5 ze39 hf rfl rfl rfl) rfl
        · intro ρ w a hw hG hf hd K hK
          obtain ⟨o1, o2, o3, o4, o13, o14⟩ := hG
          obtain ⟨_, hf, rfl⟩ := got (hd 0 (by kernel_rfl)) hf
          obtain ⟨_, hf, rfl⟩ := got (hd 1 (by kernel_rfl)) hf
          exact dv_ hK hw (wn rfl) (r_eq (d := cForm) eq39 ⟨_, rfl⟩ gt39 hf rfl rfl) rfl
        · intro ρ w a hw hG hf hd K hK
          obtain ⟨o1, o2, o3, o4, o13, o14⟩ := hG
          obtain ⟨_, hf, rfl⟩ := got (hd 2 (by kernel_rfl)) hf
          exact dv_ hK hw (wn rfl) (r_move hf rfl) rfl
        · intro ρ w a hw hG hf hd K hK
          obtain ⟨o1, o2, o3, o4, o13, o14⟩ := hG
          obtain ⟨_, hf, rfl⟩ := got (hd 3 (by kernel_rfl)) hf
          exact do_ hK (b := true) hw hf rfl rfl rfl hb23 rfl rfl
        · intro ρ w a hw hG hf hd K hK
          obtain ⟨o1, o2, o3, o4, o13, o14⟩ := hG
          obtain ⟨_, hf, rfl⟩ := got (hd 3 (by kernel_rfl)) hf
          exact do_ hK (b := true) hw hf rfl rfl rfl hb23 rfl rfl
        · intro ρ w a hw hG hf hd K hK
          obtain ⟨o1, o2, o3, o4, o13, o14⟩ := hG
          obtain ⟨_, hf, rfl⟩ := got (hd 3 (by kernel_rfl)) hf
          obtain ⟨_, hf, rfl⟩ := got (hd 5 (by kernel_rfl)) hf
          exact do_ hK (b := true) hw hf rfl rfl rfl hb23 rfl rfl
        · intro ρ w a hw hG hf hd K hK
          obtain ⟨o1, o2, o3, o4, o13, o14⟩ := hG
          obtain ⟨_, hf, rfl⟩ := got (hd 3 (by kernel_rfl)) hf
          obtain ⟨_, hf, rfl⟩ := got (hd 6 (by kernel_rfl)) hf
          exact do_ hK (b := true) hw hf rfl rfl rfl hb23 rfl rfl
      intro ρ w a hw hG hf hd
      obtain ⟨o1, o2, o3, o4, o13, o14⟩ := hG
      obtain ⟨_, hf, rfl⟩ := got (hd 3 (by decide)) hf
      obtain ⟨_, hf, rfl⟩ := got (hd 4 (by decide)) hf
      obtain ⟨_, hf, rfl⟩ := got (hd 7 (by decide)) hf
      refine st_no (b := true) hf rfl rfl rfl hb23 rfl (by decide) fun a hf => ?_
      refine s_ hf (r_pick (b := true) hf rfl hb23 rfl) fun a hf => ?_
      refine s_ hf (r_assign hf rfl) fun a hf => ?_
      refine c_nil ⟨rfl, ?_⟩
      obtain rfl := Option.some.inj hF
      exact ⟨_, hw, hf.sub ⟨rfl, rfl, rfl, rfl, rfl, rfl, rfl, rfl, trivial⟩, o1, o2, o3, o4, o13, o14⟩
    obtain ⟨hc24, hF⟩ := of_guard hF
    replace hf : Fr 99 a [(1, vI a1), (2, vI a2), (4, .pointer (some ((⟨g1, 0, none⟩ : Addr).add 0))), (7, .pointer (some ((⟨g2, 0, none⟩ : Addr).add 0))), (8, .pointer (some ((⟨g3, 0, none⟩ : Addr).add 0))), (10, .pointer (some ((⟨g13, 0, none⟩ : Addr).add 0))), (11, .pointer (some ((⟨g14, 0, none⟩ : Addr).add 0)))] := hf.sub ⟨rfl, rfl, rfl, rfl, rfl, rfl, rfl, trivial⟩
    refine c_drawL (h := 8) mixed (by kernel_rfl) (by kernel_rfl) (fun ρ w => Va ρ w 1 g1 28 ([vI a0.p, vI a0.n, vI a0.m, vI a0.k, va0]) ∧ Va ρ w 2 g2 39 (cForm.enc a3) ∧ Va ρ w 3 g3 28 ([vI 0, vI 0, vI 0, vI 0, (.slice none 0 0)]) ∧ O78 ρ w w0 4 (.slice none 0 0) ([] : List Prod) ∧ Va ρ w 13 g13 91 (cForms.enc x19) ∧ Va ρ w 14 g14 91 (cForms.enc x19)) ?_ [fun ρ w v => .agg (cForm.enc a3).toArray = v, fun ρ w v => .agg (cForm.enc zForm).toArray = v, fun ρ w v => .bool (decide (a3 = zForm)) = v, fun ρ w v => .bool (decide (a3 = zForm)) = v, fun ρ w v => .agg (cForm.enc a3).toArray = v, fun ρ w v => vI a2 = v, fun ρ w v => .pointer (some ((⟨g13, 0, none⟩ : Addr).add (0 + a2.toNat * 9))) = v, fun ρ w v => .agg (cForm.enc (vg zForm x19 a2)).toArray = v] ?_ hw ⟨o1, o2, o3, o4, o13, o14⟩ hf ?_ ?_
    · intro ρ w ρ' w' hE hG
      obtain ⟨o1, o2, o3, o4, o13, o14⟩ := hG
      exact ⟨o1.ext hE, o2.ext hE, o3.ext hE, o4.ext hE, o13.ext hE, o14.ext hE⟩
    · exact LastsL.cons (fun _ _ _ _ _ _ h => h) <| LastsL.cons (fun _ _ _ _ _ _ h => h) <| LastsL.cons (fun _ _ _ _ _ _ h => h) <| LastsL.cons (fun _ _ _ _ _ _ h => h) <| LastsL.cons (fun _ _ _ _ _ _ h => h) <| LastsL.cons (fun _ _ _ _ _ _ h => h) <| LastsL.cons (fun _ _ _ _ _ _ h => h) <| LastsL.cons (fun _ _ _ _ _ _ h => h) <| LastsL.nil
    · refine StepsB.cons ?_ <| StepsB.cons ?_ <| StepsB.cons ?_ <| StepsB.cons ?_ <| StepsB.cons ?_ <| StepsB.cons ?_ <| StepsB.cons ?_ <| StepsB.cons ?_ <| StepsB.nil
      · intro ρ w a hw hG hf hd K hK
        obtain ⟨o1, o2, o3, o4, o13, o14⟩ := hG
        exact dv_ hK hw (wn rfl) (r_load_agg ty39 hf rfl o2.cl (cForm.len _)) rfl
      · intro ρ w a hw hG hf hd K hK
        obtain ⟨o1, o2, o3, o4, o13, o14⟩ := hG
        exact dv_ hK hw (wn rfl) (r_build_arr (vs := []) (res := (cForm.enc zForm).toArray) Try.underlying39 sz5 ze39 hf rfl rfl rfl) rfl
      · intro ρ w a hw hG hf hd K hK
        obtain ⟨o1, o2, o3, o4, o13, o14⟩ := hG
        obtain ⟨_, hf, rfl⟩ := got (hd 0 (by kernel_rfl)) hf
        obtain ⟨_, hf, rfl⟩ := got (hd 1 (by kernel_rfl)) hf
        exact dv_ hK hw (wn rfl) (r_eq (d := cForm) eq39 ⟨_, rfl⟩ gt39 hf rfl rfl) rfl
      · intro ρ w a hw hG hf hd K hK
        obtain ⟨o1, o2, o3, o4, o13, o14⟩ := hG
        obtain ⟨_, hf, rfl⟩ := got (hd 2 (by kernel_rfl)) hf
        exact dv_ hK hw (wn rfl) (r_move hf rfl) rfl
      · intro ρ w a hw hG hf hd K hK
        obtain ⟨o1, o2, o3, o4, o13, o14⟩ := hG
        obtain ⟨_, hf, rfl⟩ := got (hd 3 (by kernel_rfl)) hf
        exact dv_ hK hw (wg (b := false) hf rfl rfl rfl hb23) (r_load_agg ty39 hf rfl o2.cl (cForm.len _)) rfl
      · intro ρ w a hw hG hf hd K hK
        obtain ⟨o1, o2, o3, o4, o13, o14⟩ := hG
        obtain ⟨_, hf, rfl⟩ := got (hd 3 (by kernel_rfl)) hf
        exact dv_ hK hw (wg (b := false) hf rfl rfl rfl hb23) (r_move hf rfl) rfl
      · intro ρ w a hw hG hf hd K hK
        obtain ⟨o1, o2, o3, o4, o13, o14⟩ := hG
        obtain ⟨_, hf, rfl⟩ := got (hd 3 (by kernel_rfl)) hf
        obtain ⟨_, hf, rfl⟩ := got (hd 5 (by kernel_rfl)) hf
        exact dv_ hK hw (wg (b := false) hf rfl rfl rfl hb23) (r_indexAddr_arr Try.underlying91 sz39 hf rfl rfl hc24.1 hc24.2) rfl
      · intro ρ w a hw hG hf hd K hK
        obtain ⟨o1, o2, o3, o4, o13, o14⟩ := hG
        obtain ⟨_, hf, rfl⟩ := got (hd 3 (by kernel_rfl)) hf
        obtain ⟨_, hf, rfl⟩ := got (hd 6 (by kernel_rfl)) hf
        exact dv_ hK hw (wg (b := false) hf rfl rfl rfl hb23) (r_load_agg ty39 hf rfl (o13.cl.lens (Lens.vec zForm cForm a2 hc24.1 hc24.2)) (cForm.len _)) rfl
    intro ρ w a hw hG hf hd
    obtain ⟨o1, o2, o3, o4, o13, o14⟩ := hG
    obtain ⟨_, hf, rfl⟩ := got (hd 3 (by decide)) hf
    obtain ⟨_, hf, rfl⟩ := got (hd 4 (by decide)) hf
    obtain ⟨_, hf, rfl⟩ := got (hd 7 (by decide)) hf
    refine st_g (b := false) hf rfl rfl rfl hb23 rfl (by decide) (r_eq (d := cForm) eq39 ⟨_, rfl⟩ gt39 hf rfl rfl) fun a hf => ?_
    refine s_ hf (r_pick (b := false) hf rfl hb23 rfl) fun a hf => ?_
    refine s_ hf (r_assign hf rfl) fun a hf => ?_
    refine c_nil ⟨rfl, ?_⟩
    obtain rfl := Option.some.inj hF
    exact ⟨_, hw, hf.sub ⟨rfl, rfl, rfl, rfl, rfl, rfl, rfl, rfl, trivial⟩, o1, o2, o3, o4, o13, o14⟩
  rintro a w ⟨ρ, hw, hf, o1, o2, o3, o4, o13, o14⟩
  have hF := hG21
  refine n_then ?_
  rcases of_ite hF with ⟨hb25, hF⟩ | ⟨hb25, hF⟩
  · refine c_ift hf rfl hb25 <| c_seq <| c_region ?_
    have o15 : Ow (kf cProd) 78 ρ w w0.heap.size 15 (.slice none 0 0) [] := Ow.nil _ _ _ _ _ _
    refine s_ hf (r_build_struct (pl := [(0, 1), (1, 1), (2, 1), (3, 1), (4, 1)]) (vs := []) (res := ([vI 0, vI 0, vI 0, vI 0, (.slice none 0 0)]).toArray) Try.underlying28 (by kernel_rfl) ze28 hf rfl rfl rfl) fun a hf => ?_
    refine sk_ hf (r_store_w (cs' := [vI 0, vI 0, vI 0, vI 0, (.slice none 0 0)]) hw o3 (by decide) ty28 rfl rfl (one_sch o15.ro.one) hf rfl rfl rfl) fun a w hf hΦ => ?_
    obtain ⟨hw, hA, o3⟩ := hΦ
    replace o1 := o1.adv hA (by decide)
    replace o2 := o2.adv hA (by decide)
    replace o4 := o4.adv hA (by decide)
    replace o13 := o13.adv hA (by decide)
    replace o14 := o14.adv hA (by decide)
    replace o15 := o15.adv hA (by decide)
    refine s_ hf (r_assign hf rfl) fun a hf => ?_
    refine c_nt <| c_retc ?_
    obtain rfl := Option.some.inj hF
    refine r_block <| r_then <| c_ret hf (res_ct Try.results26 ty28 hf rfl o3.cl rfl rfl) ?_
    exact ⟨_, rfl, hw.below, ⟨_, rfl, o15.out⟩⟩
  refine c_iff hf rfl hb25 <| c_seq <| c_region ?_
  refine s_ hf (r_fa fa28_4 hf rfl) fun a hf => ?_
  refine s_ hf (r_load_cell ty26 hf rfl (o1.cl.at_ 4 _ rfl)) fun a hf => ?_
  refine s_ hf (r_len Try.underlying26 (h0.now hw) hf rfl) fun a hf => ?_
  refine s_ hf (r_eql hf rfl rfl) fun a hf => ?_
  refine s_ hf (r_assign hf rfl) fun a hf => ?_
  refine c_nt ?_
  rcases of_ite hF with ⟨hb26, hF⟩ | ⟨hb26, hF⟩
  · refine c_ift hf rfl hb26 <| c_seq <| c_region ?_
    have o16 : Ow (kf cProd) 78 ρ w w0.heap.size 16 (.slice none 0 0) [] := Ow.nil _ _ _ _ _ _
    refine s_ hf (r_build_struct (pl := [(0, 1), (1, 1), (2, 1), (3, 1), (4, 1)]) (vs := []) (res := ([vI 0, vI 0, vI 0, vI 0, (.slice none 0 0)]).toArray) Try.underlying28 (by kernel_rfl) ze28 hf rfl rfl rfl) fun a hf => ?_
    refine sk_ hf (r_store_w (cs' := [vI 0, vI 0, vI 0, vI 0, (.slice none 0 0)]) hw o3 (by decide) ty28 rfl rfl (one_sch o16.ro.one) hf rfl rfl rfl) fun a w hf hΦ => ?_
    obtain ⟨hw, hA, o3⟩ := hΦ
    replace o1 := o1.adv hA (by decide)
    replace o2 := o2.adv hA (by decide)
    replace o4 := o4.adv hA (by decide)
    replace o13 := o13.adv hA (by decide)
    replace o14 := o14.adv hA (by decide)
    replace o16 := o16.adv hA (by decide)
    refine s_ hf (r_assign hf rfl) fun a hf => ?_
    refine c_nt <| c_retc ?_
    obtain rfl := Option.some.inj hF
    refine r_block <| r_then <| c_ret hf (res_ct Try.results26 ty28 hf rfl o3.cl rfl rfl) ?_
    exact ⟨_, rfl, hw.below, ⟨_, rfl, o16.out⟩⟩
  refine c_iff hf rfl hb26 <| c_skip <| n_block <| n_then <| c_seq <| c_region ?_
  refine s_ hf (r_move hf rfl) fun a hf => ?_
  refine s_ hf (r_load_agg ty39 hf rfl o2.cl (cForm.len _)) fun a hf => ?_
  obtain ⟨hc27, hF⟩ := of_guard hF
  refine s_ hf (r_indexAddr_arr Try.underlying91 sz39 hf rfl rfl hc27.1 hc27.2) fun a hf => ?_
  refine sk_ hf (r_store_l (b := a3) hw o13 (by decide) (Lens.vec zForm cForm a2 hc27.1 hc27.2) (by simp only [Nat.zero_add] <;> rfl) ty39 hf rfl rfl rfl) fun a w hf hΦ => ?_
  obtain ⟨hw, hA, o13⟩ := hΦ
  replace o1 := o1.adv hA (by decide)
  replace o2 := o2.adv hA (by decide)
  replace o3 := o3.adv hA (by decide)
  replace o4 := o4.adv hA (by decide)
  replace o14 := o14.adv hA (by decide)
  refine c_nt <| c_seq ?_
  obtain ⟨x28, hx29, hF⟩ := of_bind hF
  replace hf : Fr 99 a [(1, vI a1), (2, vI a2), (4, .pointer (some ((⟨g1, 0, none⟩ : Addr).add 0))), (7, .pointer (some ((⟨g2, 0, none⟩ : Addr).add 0))), (8, .pointer (some ((⟨g3, 0, none⟩ : Addr).add 0))), (10, .pointer (some ((⟨g13, 0, none⟩ : Addr).add 0))), (11, .pointer (some ((⟨g14, 0, none⟩ : Addr).add 0)))] := hf.sub ⟨rfl, rfl, rfl, rfl, rfl, rfl, rfl, trivial⟩
  refine c_drawL (h := 11) mixed (by kernel_rfl) (by kernel_rfl) (fun ρ w => Va ρ w 1 g1 28 ([vI a0.p, vI a0.n, vI a0.m, vI a0.k, va0]) ∧ Va ρ w 2 g2 39 (cForm.enc a3) ∧ Va ρ w 3 g3 28 ([vI 0, vI 0, vI 0, vI 0, (.slice none 0 0)]) ∧ O78 ρ w w0 4 (.slice none 0 0) ([] : List Prod) ∧ Va ρ w 13 g13 91 (cForms.enc (vs x19 a2 a3)) ∧ Va ρ w 14 g14 91 (cForms.enc x19)) ?_ [fun ρ w v => vI a2 = v, fun ρ w v => .pointer (some ((⟨g1, 0, none⟩ : Addr).add (0 + 0))) = v, fun ρ w v => vI a0.p = v, fun ρ w v => vI a2 = v, fun ρ w v => .pointer (some ((⟨g14, 0, none⟩ : Addr).add (0 + a2.toNat * 9))) = v, fun ρ w v => .agg (cForm.enc (vg zForm x19 a2)).toArray = v, fun ρ w v => .agg (cForm.enc a3).toArray = v, fun ρ w v => .pointer (some ((⟨g1, 0, none⟩ : Addr).add (0 + 0))) = v, fun ρ w v => vI a0.p = v, fun ρ w v => vI (w64 (a0.p - 1)) = v, fun ρ w v => .agg (cForm.enc x28).toArray = v] ?_ hw ⟨o1, o2, o3, o4, o13, o14⟩ hf ?_ ?_
  · intro ρ w ρ' w' hE hG
    obtain ⟨o1, o2, o3, o4, o13, o14⟩ := hG
    exact ⟨o1.ext hE, o2.ext hE, o3.ext hE, o4.ext hE, o13.ext hE, o14.ext hE⟩
  · exact LastsL.cons (fun _ _ _ _ _ _ h => h) <| LastsL.cons (fun _ _ _ _ _ _ h => h) <| LastsL.cons (fun _ _ _ _ _ _ h => h) <| LastsL.cons (fun _ _ _ _ _ _ h => h) <| LastsL.cons (fun _ _ _ _ _ _ h => h) <| LastsL.cons (fun _ _ _ _ _ _ h => h) <| LastsL.cons (fun _ _ _ _ _ _ h => h) <| LastsL.cons (fun _ _ _ _ _ _ h => h) <| LastsL.cons (fun _ _ _ _ _ _ h => h) <| LastsL.cons (fun _ _ _ _ _ _ h => h) <| LastsL.cons (fun _ _ _ _ _ _ h => h) <| LastsL.nil
  · refine StepsB.cons ?_ <| StepsB.cons ?_ <| StepsB.cons ?_ <| StepsB.cons ?_ <| StepsB.cons ?_ <| StepsB.cons ?_ <| StepsB.cons ?_ <| StepsB.cons ?_ <| StepsB.cons ?_ <| StepsB.cons ?_ <| StepsB.cons ?_ <| StepsB.nil
    · intro ρ w a hw hG hf hd K hK
      obtain ⟨o1, o2, o3, o4, o13, o14⟩ := hG
      exact dv_ hK hw (wn rfl) (r_move hf rfl) rfl
    · intro ρ w a hw hG hf hd K hK
      obtain ⟨o1, o2, o3, o4, o13, o14⟩ := hG
      exact dv_ hK hw (wn rfl) (r_fa fa28_0 hf rfl) rfl
    · intro ρ w a hw hG hf hd K hK
      obtain ⟨o1, o2, o3, o4, o13, o14⟩ := hG
      obtain ⟨_, hf, rfl⟩ := got (hd 1 (by kernel_rfl)) hf
      exact dv_ hK hw (wn rfl) (r_load_cell ty2 hf rfl (o1.cl.at_ 0 _ rfl)) rfl
    · intro ρ w a hw hG hf hd K hK
      obtain ⟨o1, o2, o3, o4, o13, o14⟩ := hG
      exact dv_ hK hw (wn rfl) (r_move hf rfl) rfl
    · intro ρ w a hw hG hf hd K hK
      obtain ⟨o1, o2, o3, o4, o13, o14⟩ := hG
      obtain ⟨_, hf, rfl⟩ := got (hd 3 (by kernel_rfl)) hf
      exact dv_ hK hw (wn rfl) (r_indexAddr_arr Try.underlying91 sz39 hf rfl rfl hc27.1 hc27.2) rfl
    · intro ρ w a hw hG hf hd K hK
      obtain ⟨o1, o2, o3, o4, o13, o14⟩ := hG
      obtain ⟨_, hf, rfl⟩ := got (hd 4 (by kernel_rfl)) hf
      exact dv_ hK hw (wn rfl) (r_load_agg ty39 hf rfl (o14.cl.lens (Lens.vec zForm cForm a2 hc27.1 hc27.2)) (cForm.len _)) rfl
    · intro ρ w a hw hG hf hd K hK
      obtain ⟨o1, o2, o3, o4, o13, o14⟩ := hG
      exact dv_ hK hw (wn rfl) (r_load_agg ty39 hf rfl o2.cl (cForm.len _)) rfl
    · intro ρ w a hw hG hf hd K hK
      obtain ⟨o1, o2, o3, o4, o13, o14⟩ := hG
      exact dv_ hK hw (wn rfl) (r_fa fa28_0 hf rfl) rfl
    · intro ρ w a hw hG hf hd K hK
      obtain ⟨o1, o2, o3, o4, o13, o14⟩ := hG
      obtain ⟨_, hf, rfl⟩ := got (hd 7 (by kernel_rfl)) hf
      exact dv_ hK hw (wn rfl) (r_load_cell ty2 hf rfl (o1.cl.at_ 0 _ rfl)) rfl
    · intro ρ w a hw hG hf hd K hK
      obtain ⟨o1, o2, o3, o4, o13, o14⟩ := hG
      obtain ⟨_, hf, rfl⟩ := got (hd 8 (by kernel_rfl)) hf
      exact dv_ hK hw (wn rfl) (r_sub hf rfl rfl) rfl
    · intro ρ w a hw hG hf hd K hK
      obtain ⟨o1, o2, o3, o4, o13, o14⟩ := hG
      obtain ⟨_, hf, rfl⟩ := got (hd 2 (by kernel_rfl)) hf
      obtain ⟨_, hf, rfl⟩ := got (hd 5 (by kernel_rfl)) hf
      obtain ⟨_, hf, rfl⟩ := got (hd 6 (by kernel_rfl)) hf
      obtain ⟨_, hf, rfl⟩ := got (hd 9 (by kernel_rfl)) hf
      refine dc_ hK hw (wn rfl) (r_fn en77 hf rfl) (impl_sum_ok  hx29) fun v w' hΦ => ?_
      obtain ⟨hb, hΦ⟩ := hΦ
      obtain rfl := hΦ
      have hE := Ext.new (ρ := ρ) 17 hb
      exact ⟨_, hw.new 17 hb, hE, rfl⟩
  intro ρ w a hw hG hf hd
  obtain ⟨o1, o2, o3, o4, o13, o14⟩ := hG
  obtain ⟨_, hf, rfl⟩ := got (hd 0 (by decide)) hf
  obtain ⟨_, hf, rfl⟩ := got (hd 10 (by decide)) hf
  refine s_ hf (r_indexAddr_arr Try.underlying91 sz39 hf rfl rfl hc27.1 hc27.2) fun a hf => ?_
  refine sk_ hf (r_store_l (b := x28) hw o14 (by decide) (Lens.vec zForm cForm a2 hc27.1 hc27.2) (by simp only [Nat.zero_add] <;> rfl) ty39 hf rfl rfl rfl) fun a w hf hΦ => ?_
  obtain ⟨hw, hA, o14⟩ := hΦ
  replace o1 := o1.adv hA (by decide)
  replace o2 := o2.adv hA (by decide)
  replace o3 := o3.adv hA (by decide)
  replace o4 := o4.adv hA (by decide)
  replace o13 := o13.adv hA (by decide)
  refine c_nt <| c_seq <| c_region ?_
  refine s_ hf (r_fa fa28_4 hf rfl) fun a hf => ?_
  refine s_ hf (r_load_cell ty26 hf rfl (o1.cl.at_ 4 _ rfl)) fun a hf => ?_
  obtain ⟨x30, hx31, hF⟩ := of_bind hF
  refine st_fn 18 hw hf rfl rfl (by decide) (r_fn en76 hf rfl) (slices_Clone_76_ok (h0.now hw) hx31) fun a v w ρ hf hw hE hN hΦ => ?_
  obtain ⟨u32, rfl, hr33⟩ := hΦ
  replace o1 := o1.ext hE
  replace o2 := o2.ext hE
  replace o3 := o3.ext hE
  replace o4 := o4.ext hE
  replace o13 := o13.ext hE
  replace o14 := o14.ext hE
  have o18 := hN hr33
  refine s_ hf (r_assign hf rfl) fun a hf => ?_
  refine c_nt <| c_seq <| c_region ?_
  refine s_ hf (r_move hf rfl) fun a hf => ?_
  refine s_ hf (r_move hf rfl) fun a hf => ?_
  refine s_ hf (r_load_agg ty91 hf rfl o13.cl (cForms.len _)) fun a hf => ?_
  obtain ⟨x34, hx35, hF⟩ := of_bind hF
  refine st_fn 19 hw hf rfl rfl (by decide) (r_fn en88 hf rfl) (impl_productOf_ok  hx35) fun a v w ρ hf hw hE hN hΦ => ?_
  obtain rfl := hΦ
  replace o1 := o1.ext hE
  replace o2 := o2.ext hE
  replace o3 := o3.ext hE
  replace o4 := o4.ext hE
  replace o13 := o13.ext hE
  replace o14 := o14.ext hE
  replace o18 := o18.ext hE
  obtain ⟨hc36, hF⟩ := of_guard hF
  obtain ⟨ad37, hl37⟩ := Ow.ce (d := cProd) o18 zProd hc36.1 hc36.2
  refine s_ hf (r_idx Try.underlying26 sz78 hf rfl hl37.at_ rfl hc36.1 hc36.2) fun a hf => ?_
  refine sk_ hf (r_store_ec (b := x34) zProd hw (by decide) o18 hc36.1 hc36.2 (Lens.id _) hl37.at_ ty78 (by first | rfl | exact Nat.add_assoc _ _ _ | (simp only [Nat.add_assoc]; rfl)) hf rfl rfl rfl) fun a w hf hΦ => ?_
  obtain ⟨hw, hA, o18⟩ := hΦ
  replace o1 := o1.adv hA (by decide)
  replace o2 := o2.adv hA (by decide)
  replace o3 := o3.adv hA (by decide)
  replace o4 := o4.adv hA (by decide)
  replace o13 := o13.adv hA (by decide)
  replace o14 := o14.adv hA (by decide)
  refine c_nt <| c_seq ?_
  obtain ⟨x38, hx39, hF⟩ := of_bind hF
  obtain ⟨hc40, hF⟩ := of_guard hF
  replace hf : Fr 99 a [(4, .pointer (some ((⟨g1, 0, none⟩ : Addr).add 0))), (8, .pointer (some ((⟨g3, 0, none⟩ : Addr).add 0))), (11, .pointer (some ((⟨g14, 0, none⟩ : Addr).add 0))), (12, u32)] := hf.sub ⟨rfl, rfl, rfl, rfl, trivial⟩
  refine c_stage 6 [5] mixed (by kernel_rfl) (by kernel_rfl) (fun c ρ w => Va ρ w 1 g1 28 ([vI a0.p, vI a0.n, vI a0.m, vI a0.k, va0]) ∧ Va ρ w 3 g3 28 ([vI 0, vI 0, vI 0, vI 0, (.slice none 0 0)]) ∧ O78 ρ w w0 4 (.slice none 0 0) ([] : List Prod) ∧ Va ρ w 14 g14 91 (cForms.enc (vs x19 a2 x28)) ∧ (c ≤ 0 → O78 ρ w w0 18 u32 (x30.set a1.toNat x34))) ?_ [fun c ρ w v => .agg ([vI a0.p, vI a0.n, vI a0.m, vI a0.k, va0]).toArray = v, fun c ρ w v => u32 = v, fun c ρ w v => .agg (cForms.enc (vs x19 a2 x28)).toArray = v, fun c ρ w v => .agg (cProd.enc x38).toArray = v, fun c ρ w v => ∃ v22, v22 = v ∧ O78 ρ w w0 22 v22 ([x38]), fun c ρ w v => ∃ va41, va41 = v ∧ O78 ρ w w0 18 va41 ((x30.set a1.toNat x34) ++ [x38])] ?_ hw ⟨o1, o3, o4, o14, (fun _ => o18)⟩ hf ?_ ?_
  · intro c ρ w ρ' w' hE hG
    obtain ⟨o1, o3, o4, o14, o18x⟩ := hG
    exact ⟨o1.ext hE, o3.ext hE, o4.ext hE, o14.ext hE, (fun h => (o18x h).ext hE)⟩
  · exact LastsS.cons (fun _ _ _ _ _ _ _ h => h) <| LastsS.cons (fun _ _ _ _ _ _ _ h => h) <| LastsS.cons (fun _ _ _ _ _ _ _ h => h) <| LastsS.cons (fun _ _ _ _ _ _ _ h => h) <| LastsS.cons (fun c _ _ _ _ _ hE h => by obtain ⟨v22, h, o22⟩ := h; exact ⟨_, h, o22.ext hE⟩) <| LastsS.cons (fun c _ _ _ _ _ hE h => by obtain ⟨va41, h, o18⟩ := h; exact ⟨_, h, o18.ext hE⟩) <| LastsS.nil
  · refine StepsS.float rfl ?_ <| StepsS.float rfl ?_ <| StepsS.float rfl ?_ <| StepsS.float rfl ?_ <| StepsS.float rfl ?_ <| StepsS.main 0 rfl rfl ?_ <| StepsS.nil
    · intro c ρ w a hs hw hG hf hd K hK
      obtain ⟨o1, o3, o4, o14, o18x⟩ := hG
      exact dv_ hK hw (wn rfl) (r_load_agg ty28 hf rfl o1.cl rfl) rfl
    · intro c ρ w a hs hw hG hf hd K hK
      obtain ⟨o1, o3, o4, o14, o18x⟩ := hG
      have o18 := o18x (hs 0 (by decide) (by kernel_rfl))
      exact dv_ hK hw (wn rfl) (r_move hf rfl) rfl
    · intro c ρ w a hs hw hG hf hd K hK
      obtain ⟨o1, o3, o4, o14, o18x⟩ := hG
      have o18 := o18x (hs 0 (by decide) (by kernel_rfl))
      exact dv_ hK hw (wn rfl) (r_load_agg ty91 hf rfl o14.cl (cForms.len _)) rfl
    · intro c ρ w a hs hw hG hf hd K hK
      obtain ⟨o1, o3, o4, o14, o18x⟩ := hG
      have o18 := o18x (hs 0 (by decide) (by kernel_rfl))
      obtain ⟨_, ht2, rfl⟩ := hd 2 (by kernel_rfl) (by kernel_rfl)
      replace hf := hf.more ht2
      refine dc_ hK hw (wn rfl) (r_fn en88 hf rfl) (impl_productOf_ok  hx39) fun v w' hΦ => ?_
      obtain ⟨hb, hΦ⟩ := hΦ
      obtain rfl := hΦ
      have hE := Ext.new (ρ := ρ) 21 hb
      exact ⟨_, hw.new 21 hb, hE, rfl⟩
    · intro c ρ w a hs hw hG hf hd K hK
      obtain ⟨o1, o3, o4, o14, o18x⟩ := hG
      have o18 := o18x (hs 0 (by decide) (by kernel_rfl))
      obtain ⟨_, ht3, rfl⟩ := hd 3 (by kernel_rfl) (by kernel_rfl)
      replace hf := hf.more ht3
      refine dx_ hK hw (wn rfl) (r_lit (d := cProd) (xs := ([x38] : List Prod)) (vs := [.agg (cProd.enc x38).toArray]) 22 Try.underlying26 el78 (Nat.le_of_ble_eq_true rfl) (Nat.le_of_ble_eq_true rfl) hw hf rfl rfl rfl) fun v22 w' hΦ => ?_
      obtain ⟨ρ, hw, hE, o22⟩ := hΦ
      exact ⟨_, hw, hE, ex_ <| an_ rfl <| o22⟩
    · intro ρ w a S hw hG hf hS hdep hSi K hK
      obtain ⟨o1, o3, o4, o14, o18x⟩ := hG
      have hfL := hf
      have o18 := o18x (by decide)
      obtain ⟨_, ht1, rfl⟩ := hS 1 (by decide) (hdep 1 (by kernel_rfl)) (by kernel_rfl)
      replace hf := hf.more ht1
      obtain ⟨_, ht4, ⟨v22, rfl, o22⟩⟩ := hS 4 (by decide) (hdep 4 (by kernel_rfl)) (by kernel_rfl)
      replace hf := hf.more ht4
      refine m_val (ms := [5]) (Γ := fun c ρ w => Va ρ w 1 g1 28 ([vI a0.p, vI a0.n, vI a0.m, vI a0.k, va0]) ∧ Va ρ w 3 g3 28 ([vI 0, vI 0, vI 0, vI 0, (.slice none 0 0)]) ∧ O78 ρ w w0 4 (.slice none 0 0) ([] : List Prod) ∧ Va ρ w 14 g14 91 (cForms.enc (vs x19 a2 x28)) ∧ (c ≤ 0 → O78 ρ w w0 18 u32 (x30.set a1.toNat x34))) (Rl := [fun c ρ w v => .agg ([vI a0.p, vI a0.n, vI a0.m, vI a0.k, va0]).toArray = v, fun c ρ w v => u32 = v, fun c ρ w v => .agg (cForms.enc (vs x19 a2 x28)).toArray = v, fun c ρ w v => .agg (cProd.enc x38).toArray = v, fun c ρ w v => ∃ v22, v22 = v ∧ O78 ρ w w0 22 v22 ([x38]), fun c ρ w v => ∃ va41, va41 = v ∧ O78 ρ w w0 18 va41 ((x30.set a1.toNat x34) ++ [x38])]) hfL hS (by decide) rfl (by kernel_rfl) (by kernel_rfl) (wn rfl) rfl (r_append Try.underlying26 el78 hw (by decide) o18 o22.ro hc40 hf rfl rfl) (fun va41 w' hΦ => ?_) hK
      obtain ⟨ρ, hw, hA, o18⟩ := hΦ
      replace o1 := o1.adv hA (by decide)
      replace o3 := o3.adv hA (by decide)
      replace o4 := o4.adv hA (by decide)
      replace o14 := o14.adv hA (by decide)
      replace o22 := o22.adv hA (by decide)
      refine ⟨_, hw, ⟨o1, o3, o4, o14, (fun h => absurd h (by decide))⟩, ?_, ?_⟩
      · exact PassL.cons (fun h => h) <| PassL.cons (fun h => h) <| PassL.cons (fun h => h) <| PassL.cons (fun h => h) <| PassL.cons (fun h => by obtain ⟨_, ht, v22, h, o22⟩ := h; exact ⟨_, ht, _, h, o22.adv hA (by decide)⟩) <| PassL.here <| PassL.nil
      · exact ⟨_, rfl, o18⟩
  intro ρ w a hw hG hf hd
  obtain ⟨o1, o3, o4, o14, o18x⟩ := hG
  obtain ⟨_, hf, rfl⟩ := got (hd 0 (by decide) (by kernel_rfl)) hf
  obtain ⟨_, hf, ⟨va41, rfl, o18⟩⟩ := got (hd 5 (by decide) (by kernel_rfl)) hf
  obtain ⟨x42, hx43, hF⟩ := of_bind hF
  refine st_mfn hf rfl rfl (by decide) (r_fn en78 hf rfl) (impl_with_ok (a0 := a0) (by decide) hw h0 o18 hx43) fun a v w ρ hf hw hA hΦ => ?_
  obtain ⟨u44, rfl, o18⟩ := hΦ
  replace o1 := o1.adv hA (by decide)
  replace o3 := o3.adv hA (by decide)
  replace o4 := o4.adv hA (by decide)
  replace o14 := o14.adv hA (by decide)
  refine sk_ hf (r_store_w (cs' := [vI x42.p, vI x42.n, vI x42.m, vI x42.k, u44]) hw o3 (by decide) ty28 rfl rfl (one_sch o18.ro.one) hf rfl rfl rfl) fun a w hf hΦ => ?_
  obtain ⟨hw, hA, o3⟩ := hΦ
  replace o1 := o1.adv hA (by decide)
  replace o4 := o4.adv hA (by decide)
  replace o14 := o14.adv hA (by decide)
  replace o18 := o18.adv hA (by decide)
  refine s_ hf (r_assign hf rfl) fun a hf => ?_
  refine c_nt <| c_retc ?_
  obtain rfl := Option.some.inj hF
  refine c_ret hf (res_ct Try.results26 ty28 hf rfl o3.cl rfl rfl) ?_
  exact ⟨_, rfl, hw.below, ⟨_, rfl, o18.out⟩⟩
/-! f135 -/
noncomputable def spec_l01Inverse_l1 (a0 : Int) (a1 : Int) (s2 : Int) : Option (LR Int Int) :=
  if (decide (s2 < a0)) = true then ((spec_l01Mod a0 a1).bind fun x4 => if a0 ≠ 0 then (if (decide (((w64 (s2 * x4)).tmod a0) = 1)) = true then (some (.ret s2)) else (some (.next (w64 (s2 + 1))))) else none) else (some (.stop s2))
noncomputable def spec_l01Inverse (a0 : Int) (a1 : Int) : Option Int :=
  (iter (fun s => spec_l01Inverse_l1 a0 a1 s) 1).bind fun o => match o with | .stop s2 => (some (0)) | .ret r => some r | .next _ => none
theorem spec_l01Inverse_ok {w0 : World} {a0 : Int} {a1 : Int}   {r : Int} (hF : spec_l01Inverse a0 a1 = some r) :
    Calls Try.prog 135 [vI a0, vI a1].toArray w0 fun e w => ∃ v, e = .returned v ∧ Below w0.heap.size w0 w ∧ .int .i64 r = v := by
  refine calls_of (k := 20) Try.func135 rfl rfl (Nat.le_of_ble_eq_true rfl) fun a hf => ?_
  replace hf : Fr 20 a [(0, vI a0), (1, vI a1)] := hf
  refine c_start fun w ρ hw => ?_
  unfold spec_l01Inverse at hF
  refine c_seq <| c_region ?_
  refine s_ hf (r_assign hf rfl) fun a hf => ?_
  refine c_nt <| c_seq <| c_seq <| c_region ?_
  refine s_ hf (r_assign hf rfl) fun a hf => ?_
  refine c_nt ?_
  obtain ⟨ol1, ho1, hG1⟩ := of_bind hF
  clear hF
  refine c_block (c_loop (id := 0) (fun s => spec_l01Inverse_l1 a0 a1 s) (fun (s2 : Int) a w => ∃ ρ, Wd w0 ρ w ∧ Fr 20 a [(0, vI a0), (1, vI a1), (5, vI s2)]) (fun (s2 : Int) a w => ∃ ρ, Wd w0 ρ w ∧ Fr 20 a []) ho1 ⟨_, hw, hf.sub ⟨rfl, rfl, rfl, trivial⟩⟩ ?_ ?_)
  · rintro s2 lr a w ⟨ρ, hw, hf⟩ hF
    replace hF : spec_l01Inverse_l1 a0 a1 s2 = some lr := hF
    unfold spec_l01Inverse_l1 at hF
    refine c_seq <| c_seq <| c_region ?_
    refine s_ hf (r_move hf rfl) fun a hf => ?_
    refine s_ hf (r_move hf rfl) fun a hf => ?_
    refine s_ hf (r_lss hf rfl rfl) fun a hf => ?_
    refine c_nt ?_
    rcases of_ite hF with ⟨hb3, hF⟩ | ⟨hb3, hF⟩
    rotate_left
    · refine c_iff hf rfl hb3 <| c_exit <| x_then ?_
      obtain rfl := Option.some.inj hF
      exact Rnd.stops ⟨_, hw, hf.sub trivial⟩
    refine c_ift hf rfl hb3 <| c_skip <| n_then <| c_seq <| c_block <| c_seq <| c_region ?_
    refine s_ hf (r_move hf rfl) fun a hf => ?_
    refine s_ hf (r_move hf rfl) fun a hf => ?_
    refine s_ hf (r_move hf rfl) fun a hf => ?_
    obtain ⟨x4, hx5, hF⟩ := of_bind hF
    refine st_fn 1 hw hf rfl rfl (by decide) (r_fn en129 hf rfl) (spec_l01Mod_ok  hx5) fun a v w ρ hf hw hE hN hΦ => ?_
    obtain rfl := hΦ
    refine s_ hf (r_mul hf rfl rfl) fun a hf => ?_
    refine s_ hf (r_move hf rfl) fun a hf => ?_
    obtain ⟨hc6, hF⟩ := of_guard hF
    refine s_ hf (r_rem hf rfl rfl hc6) fun a hf => ?_
    refine s_ hf (r_eql hf rfl rfl) fun a hf => ?_
    refine c_nt ?_
    rcases of_ite hF with ⟨hb7, hF⟩ | ⟨hb7, hF⟩
    rotate_left
    · refine c_iff hf rfl hb7 <| c_skip <| n_block <| n_then <| c_region ?_
      refine s_ hf (r_move hf rfl) fun a hf => ?_
      refine s_ hf (r_add hf rfl rfl) fun a hf => ?_
      refine s_ hf (r_assign hf rfl) fun a hf => ?_
      refine c_nil ?_
      obtain rfl := Option.some.inj hF
      exact Rnd.goes ⟨_, hw, hf.sub ⟨rfl, rfl, rfl, trivial⟩⟩
    refine c_ift hf rfl hb7 <| c_seq <| c_region ?_
    refine s_ hf (r_move hf rfl) fun a hf => ?_
    refine s_ hf (r_assign hf rfl) fun a hf => ?_
    refine c_nt <| c_retc ?_
    obtain rfl := Option.some.inj hF
    refine r_block <| r_then ?_
    refine Rnd.rets fun ho => ?_
    subst ho
    have hF := hG1
    dsimp only at hF
    obtain rfl := Option.some.inj hF
    refine r_block <| r_then <| c_ret hf (res_tmp Try.results135 hf rfl) ?_
    exact ⟨_, rfl, hw.below, rfl⟩
  rintro s2 a w hs ⟨ρ, hw, hf⟩
  subst hs
  have hF := hG1
  dsimp only at hF
  refine x_block <| n_then <| c_seq <| c_region ?_
  refine s_ hf (r_assign hf rfl) fun a hf => ?_
  refine c_nt <| c_retc ?_
  obtain rfl := Option.some.inj hF
  refine c_ret hf (res_tmp Try.results135 hf rfl) ?_
  exact ⟨_, rfl, hw.below, rfl⟩
/-! f143 -/
noncomputable def impl_inverse_l1 (a0 : Int) (a1 : Int) (s2 : Int) : Option (LR Int Int) :=
  if a0 ≠ 0 then (if (decide (((w64 (s2 * a1)).tmod a0) = 1)) = true then (some (.ret s2)) else (some (.next (w64 (s2 + 1))))) else none
noncomputable def impl_inverse (a0 : Int) (a1 : Int) : Option Int :=
  (iter (fun s => impl_inverse_l1 a0 a1 s) 1).bind fun o => match o with | .stop _ => (none) | .ret r => some r | .next _ => none
theorem impl_inverse_ok {w0 : World} {a0 : Int} {a1 : Int}   {r : Int} (hF : impl_inverse a0 a1 = some r) :
    Calls Try.prog 143 [vI a0, vI a1].toArray w0 fun e w => ∃ v, e = .returned v ∧ Below w0.heap.size w0 w ∧ .int .i64 r = v := by
  refine calls_of (k := 15) Try.func143 rfl rfl (Nat.le_of_ble_eq_true rfl) fun a hf => ?_
  replace hf : Fr 15 a [(0, vI a0), (1, vI a1)] := hf
  refine c_start fun w ρ hw => ?_
  unfold impl_inverse at hF
  refine c_seq <| c_region ?_
  refine s_ hf (r_assign hf rfl) fun a hf => ?_
  refine c_nt <| c_seq <| c_region ?_
  refine s_ hf (r_assign hf rfl) fun a hf => ?_
  refine c_nt ?_
  obtain ⟨ol1, ho1, hG1⟩ := of_bind hF
  clear hF
  refine c_block (c_loop (id := 0) (fun s => impl_inverse_l1 a0 a1 s) (fun (s2 : Int) a w => ∃ ρ, Wd w0 ρ w ∧ Fr 15 a [(0, vI a0), (1, vI a1), (5, vI s2)]) (fun (s2 : Int) a w => ∃ ρ, Wd w0 ρ w ∧ Fr 15 a []) ho1 ⟨_, hw, hf.sub ⟨rfl, rfl, rfl, trivial⟩⟩ ?_ ?_)
  · rintro s2 lr a w ⟨ρ, hw, hf⟩ hF
    replace hF : impl_inverse_l1 a0 a1 s2 = some lr := hF
    unfold impl_inverse_l1 at hF
    refine c_seq <| c_block <| c_seq <| c_region ?_
    refine s_ hf (r_move hf rfl) fun a hf => ?_
    refine s_ hf (r_move hf rfl) fun a hf => ?_
    refine s_ hf (r_mul hf rfl rfl) fun a hf => ?_
    refine s_ hf (r_move hf rfl) fun a hf => ?_
    obtain ⟨hc3, hF⟩ := of_guard hF
    refine s_ hf (r_rem hf rfl rfl hc3) fun a hf => ?_
    refine s_ hf (r_eql hf rfl rfl) fun a hf => ?_
    refine c_nt ?_
    rcases of_ite hF with ⟨hb4, hF⟩ | ⟨hb4, hF⟩
    rotate_left
    · refine c_iff hf rfl hb4 <| c_skip <| n_block <| n_then <| c_region ?_
      refine s_ hf (r_move hf rfl) fun a hf => ?_
      refine s_ hf (r_add hf rfl rfl) fun a hf => ?_
      refine s_ hf (r_assign hf rfl) fun a hf => ?_
      refine c_nil ?_
      obtain rfl := Option.some.inj hF
      exact Rnd.goes ⟨_, hw, hf.sub ⟨rfl, rfl, rfl, trivial⟩⟩
    refine c_ift hf rfl hb4 <| c_seq <| c_region ?_
    refine s_ hf (r_move hf rfl) fun a hf => ?_
    refine s_ hf (r_assign hf rfl) fun a hf => ?_
    refine c_nt <| c_retc ?_
    obtain rfl := Option.some.inj hF
    refine r_block <| r_then ?_
    refine Rnd.rets fun ho => ?_
    subst ho
    have hF := hG1
    dsimp only at hF
    obtain rfl := Option.some.inj hF
    refine r_block <| c_ret hf (res_tmp Try.results143 hf rfl) ?_
    exact ⟨_, rfl, hw.below, rfl⟩
  rintro s a w hs _
  subst hs
  cases hG1
/-! f168 -/
noncomputable def impl_first_l1 (a0 : Form) (s2 : Int) : Option (LR Int Int) :=
  if (decide (s2 < 9)) = true then (if 0 ≤ s2 ∧ s2 < 9 then (if (decide (((vg 0 a0 s2).toNat : Int) ≠ 0)) = true then (some (.ret ((vg 0 a0 s2).toNat : Int))) else (some (.next (w64 (s2 + 1))))) else none) else (some (.stop s2))
noncomputable def impl_first (a0 : Form) : Option Int :=
  (iter (fun s => impl_first_l1 a0 s) 0).bind fun o => match o with | .stop s2 => (some (0)) | .ret r => some r | .next _ => none
theorem impl_first_ok {w0 : World} {a0 : Form}   {r : Int} (hF : impl_first a0 = some r) :
    Calls Try.prog 168 [.agg (cForm.enc a0).toArray].toArray w0 fun e w => ∃ v, e = .returned v ∧ Below w0.heap.size w0 w ∧ .int .i64 r = v := by
  refine calls_of (k := 14) Try.func168 rfl rfl (Nat.le_of_ble_eq_true rfl) fun a hf => ?_
  replace hf : Fr 14 a [(0, .agg (cForm.enc a0).toArray)] := hf
  refine c_start fun w ρ hw => ?_
  unfold impl_first at hF
  refine c_seq <| c_region ?_
  refine sx_ hf (r_box (cs := cForm.enc a0) 1 hw hf rfl rfl) fun a v w hf hΦ => ?_
  obtain ⟨g1, ρ, rfl, hw, hE, o1⟩ := hΦ
  refine s_ hf (r_assign hf rfl) fun a hf => ?_
  refine c_nt <| c_seq <| c_seq <| c_region ?_
  refine s_ hf (r_load_agg ty39 hf rfl o1.cl (cForm.len _)) fun a hf => ?_
  refine s_ hf (r_move hf rfl) fun a hf => ?_
  refine c_nt ?_
  obtain ⟨ol1, ho1, hG1⟩ := of_bind hF
  clear hF
  refine c_block (c_loop (id := 0) (fun s => impl_first_l1 a0 s) (fun (s2 : Int) a w => ∃ ρ, Wd w0 ρ w ∧ Fr 14 a [(5, .agg (cForm.enc a0).toArray), (6, vI s2)]) (fun (s2 : Int) a w => ∃ ρ, Wd w0 ρ w ∧ Fr 14 a []) ho1 ⟨_, hw, hf.sub ⟨rfl, rfl, trivial⟩⟩ ?_ ?_)
  · rintro s2 lr a w ⟨ρ, hw, hf⟩ hF
    replace hF : impl_first_l1 a0 s2 = some lr := hF
    unfold impl_first_l1 at hF
    refine c_seq <| c_region ?_
    refine s_ hf (r_lss hf rfl rfl) fun a hf => ?_
    refine c_nt <| c_seq ?_
    rcases of_ite hF with ⟨hb3, hF⟩ | ⟨hb3, hF⟩
    rotate_left
    · refine c_iff hf rfl hb3 <| c_exit <| x_then ?_
      obtain rfl := Option.some.inj hF
      exact Rnd.stops ⟨_, hw, hf.sub trivial⟩
    refine c_ift hf rfl hb3 <| c_skip <| n_then <| c_seq <| c_block <| c_seq <| c_region ?_
    obtain ⟨hc4, hF⟩ := of_guard hF
    refine s_ hf (r_index_lc Try.underlying39 ty5 hf rfl rfl hc4.1 hc4.2 (Lens.vec 0 fU8 s2 hc4.1 hc4.2) rfl) fun a hf => ?_
    refine s_ hf (r_assign hf rfl) fun a hf => ?_
    refine c_nt <| c_seq <| c_region ?_
    refine s_ hf (r_move hf rfl) fun a hf => ?_
    refine s_ hf (r_neq hf rfl rfl) fun a hf => ?_
    refine c_nt ?_
    rcases of_ite hF with ⟨hb5, hF⟩ | ⟨hb5, hF⟩
    rotate_left
    · refine c_iff hf rfl hb5 <| c_skip <| n_block <| n_then <| c_region ?_
      refine s_ hf (r_add hf rfl rfl) fun a hf => ?_
      refine s_ hf (r_move hf rfl) fun a hf => ?_
      refine c_nil ?_
      obtain rfl := Option.some.inj hF
      exact Rnd.goes ⟨_, hw, hf.sub ⟨rfl, rfl, trivial⟩⟩
    refine c_ift hf rfl hb5 <| c_seq <| c_region ?_
    refine s_ hf (r_move hf rfl) fun a hf => ?_
    refine s_ hf (r_conv_u8_i64 Try.underlying5 Try.underlying2 hf rfl) fun a hf => ?_
    refine s_ hf (r_assign hf rfl) fun a hf => ?_
    refine c_nt <| c_retc ?_
    obtain rfl := Option.some.inj hF
    refine r_block <| r_then ?_
    refine Rnd.rets fun ho => ?_
    subst ho
    have hF := hG1
    dsimp only at hF
    obtain rfl := Option.some.inj hF
    refine r_block <| r_then <| c_ret hf (res_tmp Try.results168 hf rfl) ?_
    exact ⟨_, rfl, hw.below, rfl⟩
  rintro s2 a w hs ⟨ρ, hw, hf⟩
  subst hs
  have hF := hG1
  dsimp only at hF
  refine x_block <| n_then <| c_seq <| c_region ?_
  refine s_ hf (r_assign hf rfl) fun a hf => ?_
  refine c_nt <| c_retc ?_
  obtain rfl := Option.some.inj hF
  refine c_ret hf (res_tmp Try.results168 hf rfl) ?_
  exact ⟨_, rfl, hw.below, rfl⟩
/-! f169 -/
noncomputable def impl_multiple (a0 : Int) (a1 : Form) (a2 : Int) : Option Form :=
  (impl_sum a0 zForm a1 a2).bind fun x1 => some (x1)
theorem impl_multiple_ok {w0 : World} {a0 : Int} {a1 : Form} {a2 : Int}   {r : Form} (hF : impl_multiple a0 a1 a2 = some r) :
    Calls Try.prog 169 [vI a0, .agg (cForm.enc a1).toArray, vI a2].toArray w0 fun e w => ∃ v, e = .returned v ∧ Below w0.heap.size w0 w ∧ .agg (cForm.enc r).toArray = v := by
  refine calls_of (k := 12) Try.func169 rfl rfl (Nat.le_of_ble_eq_true rfl) fun a hf => ?_
  replace hf : Fr 12 a [(0, vI a0), (1, .agg (cForm.enc a1).toArray), (2, vI a2)] := hf
  refine c_start fun w ρ hw => ?_
  unfold impl_multiple at hF
  refine c_seq <| c_region ?_
  refine sx_ hf (r_box (cs := cForm.enc a1) 1 hw hf rfl rfl) fun a v w hf hΦ => ?_
  obtain ⟨g1, ρ, rfl, hw, hE, o1⟩ := hΦ
  refine sx_ hf (r_alloc (cs := cForm.enc zForm) 2 ze39 rfl hw) fun a v w hf hΦ => ?_
  obtain ⟨g2, ρ, rfl, hw, hE, o2⟩ := hΦ
  replace o1 := o1.ext hE
  refine c_nt <| c_seq <| c_region ?_
  refine s_ hf (r_move hf rfl) fun a hf => ?_
  refine s_ hf (r_build_arr (vs := []) (res := (cForm.enc zForm).toArray) Try.underlying39 sz5 ze39 hf rfl rfl rfl) fun a hf => ?_
  refine s_ hf (r_load_agg ty39 hf rfl o1.cl (cForm.len _)) fun a hf => ?_
  refine s_ hf (r_move hf rfl) fun a hf => ?_
  obtain ⟨x1, hx2, hF⟩ := of_bind hF
  refine st_fn 3 hw hf rfl rfl (by decide) (r_fn en77 hf rfl) (impl_sum_ok  hx2) fun a v w ρ hf hw hE hN hΦ => ?_
  obtain rfl := hΦ
  replace o1 := o1.ext hE
  replace o2 := o2.ext hE
  refine sk_ hf (r_store_w (cs' := cForm.enc x1) hw o2 (by decide) ty39 (cForm.len _) (cForm.len _) (cForm.one _) hf rfl rfl rfl) fun a w hf hΦ => ?_
  obtain ⟨hw, hA, o2⟩ := hΦ
  replace o1 := o1.adv hA (by decide)
  refine c_nt <| c_retc ?_
  obtain rfl := Option.some.inj hF
  refine c_ret hf (res_cell Try.results169 ty39 hf rfl o2.cl (cForm.len _)) ?_
  exact ⟨_, rfl, hw.below, rfl⟩
/-! f149 -/
noncomputable def impl_normal (a0 : Int) (a1 : Prod) : Option Prod :=
  (impl_first a1.1).bind fun x1 => (impl_first a1.2.1).bind fun x3 => (impl_inverse a0 x1).bind fun x5 => (impl_multiple a0 a1.1 x5).bind fun x7 => (impl_inverse a0 x3).bind fun x9 => (impl_multiple a0 a1.2.1 x9).bind fun x11 => if a0 ≠ 0 then ((impl_multiple a0 a1.2.2 ((w64 (x1 * x3)).tmod a0)).bind fun x14 => some ((x7, x11, x14))) else none
theorem impl_normal_ok {w0 : World} {a0 : Int} {a1 : Prod}   {r : Prod} (hF : impl_normal a0 a1 = some r) :
    Calls Try.prog 149 [vI a0, .agg (cProd.enc a1).toArray].toArray w0 fun e w => ∃ v, e = .returned v ∧ Below w0.heap.size w0 w ∧ .agg (cProd.enc r).toArray = v := by
  refine calls_of (k := 37) Try.func149 rfl rfl (Nat.le_of_ble_eq_true rfl) fun a hf => ?_
  replace hf : Fr 37 a [(0, vI a0), (1, .agg (cProd.enc a1).toArray)] := hf
  refine c_start fun w ρ hw => ?_
  unfold impl_normal at hF
  refine c_seq <| c_region ?_
  refine sx_ hf (r_box (cs := cProd.enc a1) 1 hw hf rfl rfl) fun a v w hf hΦ => ?_
  obtain ⟨g1, ρ, rfl, hw, hE, o1⟩ := hΦ
  refine sx_ hf (r_alloc (cs := cProd.enc zProd) 2 ze78 rfl hw) fun a v w hf hΦ => ?_
  obtain ⟨g2, ρ, rfl, hw, hE, o2⟩ := hΦ
  replace o1 := o1.ext hE
  refine c_nt <| c_seq ?_
  obtain ⟨x1, hx2, hF⟩ := of_bind hF
  replace hf : Fr 37 a [(0, vI a0), (3, .pointer (some ((⟨g1, 0, none⟩ : Addr).add 0))), (4, .pointer (some ((⟨g2, 0, none⟩ : Addr).add 0)))] := hf.sub ⟨rfl, rfl, rfl, trivial⟩
  refine c_drawL (h := 5) mixed (by kernel_rfl) (by kernel_rfl) (fun ρ w => Va ρ w 1 g1 78 (cProd.enc a1) ∧ Va ρ w 2 g2 78 (cProd.enc zProd)) ?_ [fun ρ w v => .pointer (some ((⟨g1, 0, none⟩ : Addr).add (0 + 0))) = v, fun ρ w v => .agg (cForm.enc a1.1).toArray = v, fun ρ w v => vI x1 = v, fun ρ w v => .pointer (some ((⟨g1, 0, none⟩ : Addr).add (0 + 9))) = v, fun ρ w v => .agg (cForm.enc a1.2.1).toArray = v] ?_ hw ⟨o1, o2⟩ hf ?_ ?_
  · intro ρ w ρ' w' hE hG
    obtain ⟨o1, o2⟩ := hG
    exact ⟨o1.ext hE, o2.ext hE⟩
  · exact LastsL.cons (fun _ _ _ _ _ _ h => h) <| LastsL.cons (fun _ _ _ _ _ _ h => h) <| LastsL.cons (fun _ _ _ _ _ _ h => h) <| LastsL.cons (fun _ _ _ _ _ _ h => h) <| LastsL.cons (fun _ _ _ _ _ _ h => h) <| LastsL.nil
  · refine StepsB.cons ?_ <| StepsB.cons ?_ <| StepsB.cons ?_ <| StepsB.cons ?_ <| StepsB.cons ?_ <| StepsB.nil
    · intro ρ w a hw hG hf hd K hK
      obtain ⟨o1, o2⟩ := hG
      exact dv_ hK hw (wn rfl) (r_fa fa78_0 hf rfl) rfl
    · intro ρ w a hw hG hf hd K hK
      obtain ⟨o1, o2⟩ := hG
      obtain ⟨_, hf, rfl⟩ := got (hd 0 (by kernel_rfl)) hf
      exact dv_ hK hw (wn rfl) (r_load_agg ty39 hf rfl (o1.cl.lens lProd_0) (cForm.len _)) rfl
    · intro ρ w a hw hG hf hd K hK
      obtain ⟨o1, o2⟩ := hG
      obtain ⟨_, hf, rfl⟩ := got (hd 1 (by kernel_rfl)) hf
      refine dc_ hK hw (wn rfl) (r_fn en168 hf rfl) (impl_first_ok  hx2) fun v w' hΦ => ?_
      obtain ⟨hb, hΦ⟩ := hΦ
      obtain rfl := hΦ
      have hE := Ext.new (ρ := ρ) 3 hb
      exact ⟨_, hw.new 3 hb, hE, rfl⟩
    · intro ρ w a hw hG hf hd K hK
      obtain ⟨o1, o2⟩ := hG
      exact dv_ hK hw (wn rfl) (r_fa fa78_1 hf rfl) rfl
    · intro ρ w a hw hG hf hd K hK
      obtain ⟨o1, o2⟩ := hG
      obtain ⟨_, hf, rfl⟩ := got (hd 3 (by kernel_rfl)) hf
      exact dv_ hK hw (wn rfl) (r_load_agg ty39 hf rfl (o1.cl.lens lProd_1) (cForm.len _)) rfl
  intro ρ w a hw hG hf hd
  obtain ⟨o1, o2⟩ := hG
  obtain ⟨_, hf, rfl⟩ := got (hd 2 (by decide)) hf
  obtain ⟨_, hf, rfl⟩ := got (hd 4 (by decide)) hf
  obtain ⟨x3, hx4, hF⟩ := of_bind hF
  refine st_fn 4 hw hf rfl rfl (by decide) (r_fn en168 hf rfl) (impl_first_ok  hx4) fun a v w ρ hf hw hE hN hΦ => ?_
  obtain rfl := hΦ
  replace o1 := o1.ext hE
  replace o2 := o2.ext hE
  refine s_ hf (r_assign hf rfl) fun a hf => ?_
  refine s_ hf (r_assign hf rfl) fun a hf => ?_
  refine c_nt <| c_seq ?_
  obtain ⟨x5, hx6, hF⟩ := of_bind hF
  obtain ⟨x7, hx8, hF⟩ := of_bind hF
  obtain ⟨x9, hx10, hF⟩ := of_bind hF
  obtain ⟨x11, hx12, hF⟩ := of_bind hF
  obtain ⟨hc13, hF⟩ := of_guard hF
  replace hf : Fr 37 a [(0, vI a0), (3, .pointer (some ((⟨g1, 0, none⟩ : Addr).add 0))), (4, .pointer (some ((⟨g2, 0, none⟩ : Addr).add 0))), (5, vI x1), (6, vI x3)] := hf.sub ⟨rfl, rfl, rfl, rfl, rfl, trivial⟩
  refine c_drawL (h := 22) mixed (by kernel_rfl) (by kernel_rfl) (fun ρ w => Va ρ w 1 g1 78 (cProd.enc a1) ∧ Va ρ w 2 g2 78 (cProd.enc zProd)) ?_ [fun ρ w v => vI a0 = v, fun ρ w v => .pointer (some ((⟨g1, 0, none⟩ : Addr).add (0 + 0))) = v, fun ρ w v => .agg (cForm.enc a1.1).toArray = v, fun ρ w v => vI a0 = v, fun ρ w v => vI x1 = v, fun ρ w v => vI x5 = v, fun ρ w v => .agg (cForm.enc x7).toArray = v, fun ρ w v => vI a0 = v, fun ρ w v => .pointer (some ((⟨g1, 0, none⟩ : Addr).add (0 + 9))) = v, fun ρ w v => .agg (cForm.enc a1.2.1).toArray = v, fun ρ w v => vI a0 = v, fun ρ w v => vI x3 = v, fun ρ w v => vI x9 = v, fun ρ w v => .agg (cForm.enc x11).toArray = v, fun ρ w v => vI a0 = v, fun ρ w v => .pointer (some ((⟨g1, 0, none⟩ : Addr).add (0 + 18))) = v, fun ρ w v => .agg (cForm.enc a1.2.2).toArray = v, fun ρ w v => vI x1 = v, fun ρ w v => vI x3 = v, fun ρ w v => vI (w64 (x1 * x3)) = v, fun ρ w v => vI a0 = v, fun ρ w v => vI ((w64 (x1 * x3)).tmod a0) = v] ?_ hw ⟨o1, o2⟩ hf ?_ ?_
  · intro ρ w ρ' w' hE hG
    obtain ⟨o1, o2⟩ := hG
    exact ⟨o1.ext hE, o2.ext hE⟩
  · exact LastsL.cons (fun _ _ _ _ _ _ h => h) <| LastsL.cons (fun _ _ _ _ _ _ h => h) <| LastsL.cons (fun _ _ _ _ _ _ h => h) <| LastsL.cons (fun _ _ _ _ _ _ h => h) <| LastsL.cons (fun _ _ _ _ _ _ h => h) <| LastsL.cons (fun _ _ _ _ _ _ h => h) <| LastsL.cons (fun _ _ _ _ _ _ h => h) <| LastsL.cons (fun _ _ _ _ _ _ h => h) <| LastsL.cons (fun _ _ _ _ _ _ h => h) <| LastsL.cons (fun _ _ _ _ _ _ h => h) <| LastsL.cons (fun _ _ _ _ _ _ h => h) <| LastsL.cons (fun _ _ _ _ _ _ h => h) <| LastsL.cons (fun _ _ _ _ _ _ h => h) <| LastsL.cons (fun _ _ _ _ _ _ h => h) <| LastsL.cons (fun _ _ _ _ _ _ h => h) <| LastsL.cons (fun _ _ _ _ _ _ h => h) <| LastsL.cons (fun _ _ _ _ _ _ h => h) <| LastsL.cons (fun _ _ _ _ _ _ h => h) <| LastsL.cons (fun _ _ _ _ _ _ h => h) <| LastsL.cons (fun _ _ _ _ _ _ h => h) <| LastsL.cons (fun _ _ _ _ _ _ h => h) <| LastsL.cons (fun _ _ _ _ _ _ h => h) <| LastsL.nil
  · refine StepsB.cons ?_ <| StepsB.cons ?_ <| StepsB.cons ?_ <| StepsB.cons ?_ <| StepsB.cons ?_ <| StepsB.cons ?_ <| StepsB.cons ?_ <| StepsB.cons ?_ <| StepsB.cons ?_ <| StepsB.cons ?_ <| StepsB.cons ?_ <| StepsB.cons ?_ <| StepsB.cons ?_ <| StepsB.cons ?_ <| StepsB.cons ?_ <| StepsB.cons ?_ <| StepsB.cons ?_ <| StepsB.cons ?_ <| StepsB.cons ?_ <| StepsB.cons ?_ <| StepsB.cons ?_ <| StepsB.cons ?_ <| StepsB.nil
    · intro ρ w a hw hG hf hd K hK
      obtain ⟨o1, o2⟩ := hG
      exact dv_ hK hw (wn rfl) (r_move hf rfl) rfl
    · intro ρ w a hw hG hf hd K hK
      obtain ⟨o1, o2⟩ := hG
      exact dv_ hK hw (wn rfl) (r_fa fa78_0 hf rfl) rfl
    · intro ρ w a hw hG hf hd K hK
      obtain ⟨o1, o2⟩ := hG
      obtain ⟨_, hf, rfl⟩ := got (hd 1 (by kernel_rfl)) hf
      exact dv_ hK hw (wn rfl) (r_load_agg ty39 hf rfl (o1.cl.lens lProd_0) (cForm.len _)) rfl
    · intro ρ w a hw hG hf hd K hK
      obtain ⟨o1, o2⟩ := hG
      exact dv_ hK hw (wn rfl) (r_move hf rfl) rfl
    · intro ρ w a hw hG hf hd K hK
      obtain ⟨o1, o2⟩ := hG
      exact dv_ hK hw (wn rfl) (r_move hf rfl) rfl
    · intro ρ w a hw hG hf hd K hK
      obtain ⟨o1, o2⟩ := hG
      obtain ⟨_, hf, rfl⟩ := got (hd 3 (by kernel_rfl)) hf
      obtain ⟨_, hf, rfl⟩ := got (hd 4 (by kernel_rfl)) hf
      refine dc_ hK hw (wn rfl) (r_fn en143 hf rfl) (impl_inverse_ok  hx6) fun v w' hΦ => ?_
      obtain ⟨hb, hΦ⟩ := hΦ
      obtain rfl := hΦ
      have hE := Ext.new (ρ := ρ) 5 hb
      exact ⟨_, hw.new 5 hb, hE, rfl⟩
    · intro ρ w a hw hG hf hd K hK
      obtain ⟨o1, o2⟩ := hG
      obtain ⟨_, hf, rfl⟩ := got (hd 0 (by kernel_rfl)) hf
      obtain ⟨_, hf, rfl⟩ := got (hd 2 (by kernel_rfl)) hf
      obtain ⟨_, hf, rfl⟩ := got (hd 5 (by kernel_rfl)) hf
      refine dc_ hK hw (wn rfl) (r_fn en169 hf rfl) (impl_multiple_ok  hx8) fun v w' hΦ => ?_
      obtain ⟨hb, hΦ⟩ := hΦ
      obtain rfl := hΦ
      have hE := Ext.new (ρ := ρ) 6 hb
      exact ⟨_, hw.new 6 hb, hE, rfl⟩
    · intro ρ w a hw hG hf hd K hK
      obtain ⟨o1, o2⟩ := hG
      exact dv_ hK hw (wn rfl) (r_move hf rfl) rfl
    · intro ρ w a hw hG hf hd K hK
      obtain ⟨o1, o2⟩ := hG
      exact dv_ hK hw (wn rfl) (r_fa fa78_1 hf rfl) rfl
    · intro ρ w a hw hG hf hd K hK
      obtain ⟨o1, o2⟩ := hG
      obtain ⟨_, hf, rfl⟩ := got (hd 8 (by kernel_rfl)) hf
      exact dv_ hK hw (wn rfl) (r_load_agg ty39 hf rfl (o1.cl.lens lProd_1) (cForm.len _)) rfl
    · intro ρ w a hw hG hf hd K hK
      obtain ⟨o1, o2⟩ := hG
      exact dv_ hK hw (wn rfl) (r_move hf rfl) rfl
    · intro ρ w a hw hG hf hd K hK
      obtain ⟨o1, o2⟩ := hG
      exact dv_ hK hw (wn rfl) (r_move hf rfl) rfl
    · intro ρ w a hw hG hf hd K hK
      obtain ⟨o1, o2⟩ := hG
      obtain ⟨_, hf, rfl⟩ := got (hd 10 (by kernel_rfl)) hf
      obtain ⟨_, hf, rfl⟩ := got (hd 11 (by kernel_rfl)) hf
      refine dc_ hK hw (wn rfl) (r_fn en143 hf rfl) (impl_inverse_ok  hx10) fun v w' hΦ => ?_
      obtain ⟨hb, hΦ⟩ := hΦ
      obtain rfl := hΦ
      have hE := Ext.new (ρ := ρ) 7 hb
      exact ⟨_, hw.new 7 hb, hE, rfl⟩
    · intro ρ w a hw hG hf hd K hK
      obtain ⟨o1, o2⟩ := hG
      obtain ⟨_, hf, rfl⟩ := got (hd 7 (by kernel_rfl)) hf
      obtain ⟨_, hf, rfl⟩ := got (hd 9 (by kernel_rfl)) hf
      obtain ⟨_, hf, rfl⟩ := got (hd 12 (by kernel_rfl)) hf
      refine dc_ hK hw (wn rfl) (r_fn en169 hf rfl) (impl_multiple_ok  hx12) fun v w' hΦ => ?_
      obtain ⟨hb, hΦ⟩ := hΦ
      obtain rfl := hΦ
      have hE := Ext.new (ρ := ρ) 8 hb
      exact ⟨_, hw.new 8 hb, hE, rfl⟩
    · intro ρ w a hw hG hf hd K hK
      obtain ⟨o1, o2⟩ := hG
      exact dv_ hK hw (wn rfl) (r_move hf rfl) rfl
    · intro ρ w a hw hG hf hd K hK
      obtain ⟨o1, o2⟩ := hG
      exact dv_ hK hw (wn rfl) (r_fa fa78_2 hf rfl) rfl
    · intro ρ w a hw hG hf hd K hK
      obtain ⟨o1, o2⟩ := hG
      obtain ⟨_, hf, rfl⟩ := got (hd 15 (by kernel_rfl)) hf
      exact dv_ hK hw (wn rfl) (r_load_agg ty39 hf rfl (o1.cl.lens lProd_2) (cForm.len _)) rfl
    · intro ρ w a hw hG hf hd K hK
      obtain ⟨o1, o2⟩ := hG
      exact dv_ hK hw (wn rfl) (r_move hf rfl) rfl
    · intro ρ w a hw hG hf hd K hK
      obtain ⟨o1, o2⟩ := hG
      exact dv_ hK hw (wn rfl) (r_move hf rfl) rfl
    · intro ρ w a hw hG hf hd K hK
      obtain ⟨o1, o2⟩ := hG
      obtain ⟨_, hf, rfl⟩ := got (hd 17 (by kernel_rfl)) hf
      obtain ⟨_, hf, rfl⟩ := got (hd 18 (by kernel_rfl)) hf
      exact dv_ hK hw (wn rfl) (r_mul hf rfl rfl) rfl
    · intro ρ w a hw hG hf hd K hK
      obtain ⟨o1, o2⟩ := hG
      exact dv_ hK hw (wn rfl) (r_move hf rfl) rfl
    · intro ρ w a hw hG hf hd K hK
      obtain ⟨o1, o2⟩ := hG
      obtain ⟨_, hf, rfl⟩ := got (hd 19 (by kernel_rfl)) hf
      obtain ⟨_, hf, rfl⟩ := got (hd 20 (by kernel_rfl)) hf
      exact dv_ hK hw (wn rfl) (r_rem hf rfl rfl hc13) rfl
  intro ρ w a hw hG hf hd
  obtain ⟨o1, o2⟩ := hG
  obtain ⟨_, hf, rfl⟩ := got (hd 6 (by decide)) hf
  obtain ⟨_, hf, rfl⟩ := got (hd 13 (by decide)) hf
  obtain ⟨_, hf, rfl⟩ := got (hd 14 (by decide)) hf
  obtain ⟨_, hf, rfl⟩ := got (hd 16 (by decide)) hf
  obtain ⟨_, hf, rfl⟩ := got (hd 21 (by decide)) hf
  obtain ⟨x14, hx15, hF⟩ := of_bind hF
  refine st_fn 9 hw hf rfl rfl (by decide) (r_fn en169 hf rfl) (impl_multiple_ok  hx15) fun a v w ρ hf hw hE hN hΦ => ?_
  obtain rfl := hΦ
  replace o1 := o1.ext hE
  replace o2 := o2.ext hE
  refine s_ hf (r_build_struct (pl := [(0, 9), (9, 9), (18, 9)]) (vs := [(0, .agg (cForm.enc x7).toArray), (1, .agg (cForm.enc x11).toArray), (2, .agg (cForm.enc x14).toArray)]) (res := (cProd.enc (x7, x11, x14)).toArray) Try.underlying78 (by kernel_rfl) ze78 hf rfl rfl ((fill_lens (d := cProd) (z := zProd) lProd_0 rfl rfl).trans ((fill_lens (d := cProd) (z := (x7, zProd.2.1, zProd.2.2)) lProd_1 rfl rfl).trans ((fill_lens (d := cProd) (z := (x7, x11, zProd.2.2)) lProd_2 rfl rfl).trans rfl)))) fun a hf => ?_
  refine sk_ hf (r_store_w (cs' := cProd.enc (x7, x11, x14)) hw o2 (by decide) ty78 (cProd.len _) (cProd.len _) (cProd.one _) hf rfl rfl rfl) fun a w hf hΦ => ?_
  obtain ⟨hw, hA, o2⟩ := hΦ
  replace o1 := o1.adv hA (by decide)
  refine c_nt <| c_retc ?_
  obtain rfl := Option.some.inj hF
  refine c_ret hf (res_cell Try.results149 ty78 hf rfl o2.cl (cProd.len _)) ?_
  exact ⟨_, rfl, hw.below, rfl⟩
/-! f177 -/
noncomputable def spec_l03Lead_l1 (a0 : Form) (s2 : Int) : Option (LR Int Int) :=
  if (decide (s2 < 9)) = true then (if 0 ≤ s2 ∧ s2 < 9 then (if (decide (((vg 0 a0 s2).toNat : Int) ≠ 0)) = true then (some (.ret ((vg 0 a0 s2).toNat : Int))) else (some (.next (w64 (s2 + 1))))) else none) else (some (.stop s2))
noncomputable def spec_l03Lead (a0 : Form) : Option Int :=
  (iter (fun s => spec_l03Lead_l1 a0 s) 0).bind fun o => match o with | .stop s2 => (some (0)) | .ret r => some r | .next _ => none
theorem spec_l03Lead_ok {w0 : World} {a0 : Form}   {r : Int} (hF : spec_l03Lead a0 = some r) :
    Calls Try.prog 177 [.agg (cForm.enc a0).toArray].toArray w0 fun e w => ∃ v, e = .returned v ∧ Below w0.heap.size w0 w ∧ .int .i64 r = v := by
  refine calls_of (k := 16) Try.func177 rfl rfl (Nat.le_of_ble_eq_true rfl) fun a hf => ?_
  replace hf : Fr 16 a [(0, .agg (cForm.enc a0).toArray)] := hf
  refine c_start fun w ρ hw => ?_
  unfold spec_l03Lead at hF
  refine c_seq <| c_region ?_
  refine sx_ hf (r_box (cs := cForm.enc a0) 1 hw hf rfl rfl) fun a v w hf hΦ => ?_
  obtain ⟨g1, ρ, rfl, hw, hE, o1⟩ := hΦ
  refine s_ hf (r_assign hf rfl) fun a hf => ?_
  refine c_nt <| c_seq <| c_seq <| c_region ?_
  refine s_ hf (r_assign hf rfl) fun a hf => ?_
  refine c_nt ?_
  obtain ⟨ol1, ho1, hG1⟩ := of_bind hF
  clear hF
  refine c_block (c_loop (id := 0) (fun s => spec_l03Lead_l1 a0 s) (fun (s2 : Int) a w => ∃ ρ, Wd w0 ρ w ∧ Fr 16 a [(1, .pointer (some ((⟨g1, 0, none⟩ : Addr).add 0))), (3, vI s2)] ∧ Va ρ w 1 g1 39 (cForm.enc a0)) (fun (s2 : Int) a w => ∃ ρ, Wd w0 ρ w ∧ Fr 16 a []) ho1 ⟨_, hw, hf.sub ⟨rfl, rfl, trivial⟩, o1⟩ ?_ ?_)
  · rintro s2 lr a w ⟨ρ, hw, hf, o1⟩ hF
    replace hF : spec_l03Lead_l1 a0 s2 = some lr := hF
    unfold spec_l03Lead_l1 at hF
    refine c_seq <| c_seq <| c_region ?_
    refine s_ hf (r_move hf rfl) fun a hf => ?_
    refine s_ hf (r_lss hf rfl rfl) fun a hf => ?_
    refine c_nt ?_
    rcases of_ite hF with ⟨hb3, hF⟩ | ⟨hb3, hF⟩
    rotate_left
    · refine c_iff hf rfl hb3 <| c_exit <| x_then ?_
      obtain rfl := Option.some.inj hF
      exact Rnd.stops ⟨_, hw, hf.sub trivial⟩
    refine c_ift hf rfl hb3 <| c_skip <| n_then <| c_seq <| c_block <| c_seq <| c_region ?_
    refine s_ hf (r_move hf rfl) fun a hf => ?_
    obtain ⟨hc4, hF⟩ := of_guard hF
    refine s_ hf (r_indexAddr_arr Try.underlying39 sz5 hf rfl rfl hc4.1 hc4.2) fun a hf => ?_
    refine s_ hf (r_load_cell ty5 hf rfl (o1.cl.lens (Lens.vec 0 fU8 s2 hc4.1 hc4.2))) fun a hf => ?_
    refine s_ hf (r_neq hf rfl rfl) fun a hf => ?_
    refine c_nt ?_
    rcases of_ite hF with ⟨hb5, hF⟩ | ⟨hb5, hF⟩
    rotate_left
    · refine c_iff hf rfl hb5 <| c_skip <| n_block <| n_then <| c_region ?_
      refine s_ hf (r_move hf rfl) fun a hf => ?_
      refine s_ hf (r_add hf rfl rfl) fun a hf => ?_
      refine s_ hf (r_assign hf rfl) fun a hf => ?_
      refine c_nil ?_
      obtain rfl := Option.some.inj hF
      exact Rnd.goes ⟨_, hw, hf.sub ⟨rfl, rfl, trivial⟩, o1⟩
    refine c_ift hf rfl hb5 <| c_seq <| c_region ?_
    refine s_ hf (r_move hf rfl) fun a hf => ?_
    refine s_ hf (r_indexAddr_arr Try.underlying39 sz5 hf rfl rfl hc4.1 hc4.2) fun a hf => ?_
    refine s_ hf (r_load_cell ty5 hf rfl (o1.cl.lens (Lens.vec 0 fU8 s2 hc4.1 hc4.2))) fun a hf => ?_
    refine s_ hf (r_conv_u8_i64 Try.underlying5 Try.underlying2 hf rfl) fun a hf => ?_
    refine s_ hf (r_assign hf rfl) fun a hf => ?_
    refine c_nt <| c_retc ?_
    obtain rfl := Option.some.inj hF
    refine r_block <| r_then ?_
    refine Rnd.rets fun ho => ?_
    subst ho
    have hF := hG1
    dsimp only at hF
    obtain rfl := Option.some.inj hF
    refine r_block <| r_then <| c_ret hf (res_tmp Try.results177 hf rfl) ?_
    exact ⟨_, rfl, hw.below, rfl⟩
  rintro s2 a w hs ⟨ρ, hw, hf⟩
  subst hs
  have hF := hG1
  dsimp only at hF
  refine x_block <| n_then <| c_seq <| c_region ?_
  refine s_ hf (r_assign hf rfl) fun a hf => ?_
  refine c_nt <| c_retc ?_
  obtain rfl := Option.some.inj hF
  refine c_ret hf (res_tmp Try.results177 hf rfl) ?_
  exact ⟨_, rfl, hw.below, rfl⟩
/-! f178 -/
noncomputable def spec_l01Scale (a0 : Int) (a1 : Form) (a2 : Int) : Option Form :=
  (spec_l01Add a0 zForm a1 a2).bind fun x1 => some (x1)
theorem spec_l01Scale_ok {w0 : World} {a0 : Int} {a1 : Form} {a2 : Int}   {r : Form} (hF : spec_l01Scale a0 a1 a2 = some r) :
    Calls Try.prog 178 [vI a0, .agg (cForm.enc a1).toArray, vI a2].toArray w0 fun e w => ∃ v, e = .returned v ∧ Below w0.heap.size w0 w ∧ .agg (cForm.enc r).toArray = v := by
  refine calls_of (k := 12) Try.func178 rfl rfl (Nat.le_of_ble_eq_true rfl) fun a hf => ?_
  replace hf : Fr 12 a [(0, vI a0), (1, .agg (cForm.enc a1).toArray), (2, vI a2)] := hf
  refine c_start fun w ρ hw => ?_
  unfold spec_l01Scale at hF
  refine c_seq <| c_region ?_
  refine sx_ hf (r_box (cs := cForm.enc a1) 1 hw hf rfl rfl) fun a v w hf hΦ => ?_
  obtain ⟨g1, ρ, rfl, hw, hE, o1⟩ := hΦ
  refine sx_ hf (r_alloc (cs := cForm.enc zForm) 2 ze39 rfl hw) fun a v w hf hΦ => ?_
  obtain ⟨g2, ρ, rfl, hw, hE, o2⟩ := hΦ
  replace o1 := o1.ext hE
  refine c_nt <| c_seq <| c_region ?_
  refine s_ hf (r_move hf rfl) fun a hf => ?_
  refine s_ hf (r_build_arr (vs := []) (res := (cForm.enc zForm).toArray) Try.underlying39 sz5 ze39 hf rfl rfl rfl) fun a hf => ?_
  refine s_ hf (r_load_agg ty39 hf rfl o1.cl (cForm.len _)) fun a hf => ?_
  refine s_ hf (r_move hf rfl) fun a hf => ?_
  obtain ⟨x1, hx2, hF⟩ := of_bind hF
  refine st_fn 3 hw hf rfl rfl (by decide) (r_fn en72 hf rfl) (spec_l01Add_ok  hx2) fun a v w ρ hf hw hE hN hΦ => ?_
  obtain rfl := hΦ
  replace o1 := o1.ext hE
  replace o2 := o2.ext hE
  refine sk_ hf (r_store_w (cs' := cForm.enc x1) hw o2 (by decide) ty39 (cForm.len _) (cForm.len _) (cForm.one _) hf rfl rfl rfl) fun a w hf hΦ => ?_
  obtain ⟨hw, hA, o2⟩ := hΦ
  replace o1 := o1.adv hA (by decide)
  refine c_nt <| c_retc ?_
  obtain rfl := Option.some.inj hF
  refine c_ret hf (res_cell Try.results178 ty39 hf rfl o2.cl (cForm.len _)) ?_
  exact ⟨_, rfl, hw.below, rfl⟩
/-! f166 -/
noncomputable def spec_l03Normal (a0 : Int) (a1 : Prod) : Option Prod :=
  (spec_l03Lead a1.1).bind fun x1 => (spec_l03Lead a1.2.1).bind fun x3 => (spec_l01Inverse a0 x1).bind fun x5 => (spec_l01Scale a0 a1.1 x5).bind fun x7 => (spec_l01Inverse a0 x3).bind fun x9 => (spec_l01Scale a0 ((x7, a1.2.1, a1.2.2).2.1) x9).bind fun x11 => (spec_l01Scale a0 (((x7, a1.2.1, a1.2.2).1, x11, (x7, a1.2.1, a1.2.2).2.2).2.2) (w64 (x1 * x3))).bind fun x13 => some ((((x7, a1.2.1, a1.2.2).1, x11, (x7, a1.2.1, a1.2.2).2.2).1, ((x7, a1.2.1, a1.2.2).1, x11, (x7, a1.2.1, a1.2.2).2.2).2.1, x13))
theorem spec_l03Normal_ok {w0 : World} {a0 : Int} {a1 : Prod}   {r : Prod} (hF : spec_l03Normal a0 a1 = some r) :
    Calls Try.prog 166 [vI a0, .agg (cProd.enc a1).toArray].toArray w0 fun e w => ∃ v, e = .returned v ∧ Below w0.heap.size w0 w ∧ .agg (cProd.enc r).toArray = v := by
  refine calls_of (k := 38) Try.func166 rfl rfl (Nat.le_of_ble_eq_true rfl) fun a hf => ?_
  replace hf : Fr 38 a [(0, vI a0), (1, .agg (cProd.enc a1).toArray)] := hf
  refine c_start fun w ρ hw => ?_
  unfold spec_l03Normal at hF
  refine c_seq <| c_region ?_
  refine sx_ hf (r_box (cs := cProd.enc a1) 1 hw hf rfl rfl) fun a v w hf hΦ => ?_
  obtain ⟨g1, ρ, rfl, hw, hE, o1⟩ := hΦ
  refine sx_ hf (r_alloc (cs := cProd.enc zProd) 2 ze78 rfl hw) fun a v w hf hΦ => ?_
  obtain ⟨g2, ρ, rfl, hw, hE, o2⟩ := hΦ
  replace o1 := o1.ext hE
  refine c_nt <| c_seq ?_
  obtain ⟨x1, hx2, hF⟩ := of_bind hF
  replace hf : Fr 38 a [(0, vI a0), (3, .pointer (some ((⟨g1, 0, none⟩ : Addr).add 0))), (4, .pointer (some ((⟨g2, 0, none⟩ : Addr).add 0)))] := hf.sub ⟨rfl, rfl, rfl, trivial⟩
  refine c_drawL (h := 5) mixed (by kernel_rfl) (by kernel_rfl) (fun ρ w => Va ρ w 1 g1 78 (cProd.enc a1) ∧ Va ρ w 2 g2 78 (cProd.enc zProd)) ?_ [fun ρ w v => .pointer (some ((⟨g1, 0, none⟩ : Addr).add (0 + 0))) = v, fun ρ w v => .agg (cForm.enc a1.1).toArray = v, fun ρ w v => vI x1 = v, fun ρ w v => .pointer (some ((⟨g1, 0, none⟩ : Addr).add (0 + 9))) = v, fun ρ w v => .agg (cForm.enc a1.2.1).toArray = v] ?_ hw ⟨o1, o2⟩ hf ?_ ?_
  · intro ρ w ρ' w' hE hG
    obtain ⟨o1, o2⟩ := hG
    exact ⟨o1.ext hE, o2.ext hE⟩
  · exact LastsL.cons (fun _ _ _ _ _ _ h => h) <| LastsL.cons (fun _ _ _ _ _ _ h => h) <| LastsL.cons (fun _ _ _ _ _ _ h => h) <| LastsL.cons (fun _ _ _ _ _ _ h => h) <| LastsL.cons (fun _ _ _ _ _ _ h => h) <| LastsL.nil
  · refine StepsB.cons ?_ <| StepsB.cons ?_ <| StepsB.cons ?_ <| StepsB.cons ?_ <| StepsB.cons ?_ <| StepsB.nil
    · intro ρ w a hw hG hf hd K hK
      obtain ⟨o1, o2⟩ := hG
      exact dv_ hK hw (wn rfl) (r_fa fa78_0 hf rfl) rfl
    · intro ρ w a hw hG hf hd K hK
      obtain ⟨o1, o2⟩ := hG
      obtain ⟨_, hf, rfl⟩ := got (hd 0 (by kernel_rfl)) hf
      exact dv_ hK hw (wn rfl) (r_load_agg ty39 hf rfl (o1.cl.lens lProd_0) (cForm.len _)) rfl
    · intro ρ w a hw hG hf hd K hK
      obtain ⟨o1, o2⟩ := hG
      obtain ⟨_, hf, rfl⟩ := got (hd 1 (by kernel_rfl)) hf
      refine dc_ hK hw (wn rfl) (r_fn en177 hf rfl) (spec_l03Lead_ok  hx2) fun v w' hΦ => ?_
      obtain ⟨hb, hΦ⟩ := hΦ
      obtain rfl := hΦ
      have hE := Ext.new (ρ := ρ) 3 hb
      exact ⟨_, hw.new 3 hb, hE, rfl⟩
    · intro ρ w a hw hG hf hd K hK
      obtain ⟨o1, o2⟩ := hG
      exact dv_ hK hw (wn rfl) (r_fa fa78_1 hf rfl) rfl
    · intro ρ w a hw hG hf hd K hK
      obtain ⟨o1, o2⟩ := hG
      obtain ⟨_, hf, rfl⟩ := got (hd 3 (by kernel_rfl)) hf
      exact dv_ hK hw (wn rfl) (r_load_agg ty39 hf rfl (o1.cl.lens lProd_1) (cForm.len _)) rfl
  intro ρ w a hw hG hf hd
  obtain ⟨o1, o2⟩ := hG
  obtain ⟨_, hf, rfl⟩ := got (hd 2 (by decide)) hf
  obtain ⟨_, hf, rfl⟩ := got (hd 4 (by decide)) hf
  obtain ⟨x3, hx4, hF⟩ := of_bind hF
  refine st_fn 4 hw hf rfl rfl (by decide) (r_fn en177 hf rfl) (spec_l03Lead_ok  hx4) fun a v w ρ hf hw hE hN hΦ => ?_
  obtain rfl := hΦ
  replace o1 := o1.ext hE
  replace o2 := o2.ext hE
  refine s_ hf (r_assign hf rfl) fun a hf => ?_
  refine s_ hf (r_assign hf rfl) fun a hf => ?_
  refine c_nt <| c_seq ?_
  obtain ⟨x5, hx6, hF⟩ := of_bind hF
  replace hf : Fr 38 a [(0, vI a0), (3, .pointer (some ((⟨g1, 0, none⟩ : Addr).add 0))), (4, .pointer (some ((⟨g2, 0, none⟩ : Addr).add 0))), (5, vI x1), (6, vI x3)] := hf.sub ⟨rfl, rfl, rfl, rfl, rfl, trivial⟩
  refine c_drawL (h := 6) mixed (by kernel_rfl) (by kernel_rfl) (fun ρ w => Va ρ w 1 g1 78 (cProd.enc a1) ∧ Va ρ w 2 g2 78 (cProd.enc zProd)) ?_ [fun ρ w v => vI a0 = v, fun ρ w v => .pointer (some ((⟨g1, 0, none⟩ : Addr).add (0 + 0))) = v, fun ρ w v => .agg (cForm.enc a1.1).toArray = v, fun ρ w v => vI a0 = v, fun ρ w v => vI x1 = v, fun ρ w v => vI x5 = v] ?_ hw ⟨o1, o2⟩ hf ?_ ?_
  · intro ρ w ρ' w' hE hG
    obtain ⟨o1, o2⟩ := hG
    exact ⟨o1.ext hE, o2.ext hE⟩
  · exact LastsL.cons (fun _ _ _ _ _ _ h => h) <| LastsL.cons (fun _ _ _ _ _ _ h => h) <| LastsL.cons (fun _ _ _ _ _ _ h => h) <| LastsL.cons (fun _ _ _ _ _ _ h => h) <| LastsL.cons (fun _ _ _ _ _ _ h => h) <| LastsL.cons (fun _ _ _ _ _ _ h => h) <| LastsL.nil
  · refine StepsB.cons ?_ <| StepsB.cons ?_ <| StepsB.cons ?_ <| StepsB.cons ?_ <| StepsB.cons ?_ <| StepsB.cons ?_ <| StepsB.nil
    · intro ρ w a hw hG hf hd K hK
      obtain ⟨o1, o2⟩ := hG
      exact dv_ hK hw (wn rfl) (r_move hf rfl) rfl
    · intro ρ w a hw hG hf hd K hK
      obtain ⟨o1, o2⟩ := hG
      exact dv_ hK hw (wn rfl) (r_fa fa78_0 hf rfl) rfl
    · intro ρ w a hw hG hf hd K hK
      obtain ⟨o1, o2⟩ := hG
      obtain ⟨_, hf, rfl⟩ := got (hd 1 (by kernel_rfl)) hf
      exact dv_ hK hw (wn rfl) (r_load_agg ty39 hf rfl (o1.cl.lens lProd_0) (cForm.len _)) rfl
    · intro ρ w a hw hG hf hd K hK
      obtain ⟨o1, o2⟩ := hG
      exact dv_ hK hw (wn rfl) (r_move hf rfl) rfl
    · intro ρ w a hw hG hf hd K hK
      obtain ⟨o1, o2⟩ := hG
      exact dv_ hK hw (wn rfl) (r_move hf rfl) rfl
    · intro ρ w a hw hG hf hd K hK
      obtain ⟨o1, o2⟩ := hG
      obtain ⟨_, hf, rfl⟩ := got (hd 3 (by kernel_rfl)) hf
      obtain ⟨_, hf, rfl⟩ := got (hd 4 (by kernel_rfl)) hf
      refine dc_ hK hw (wn rfl) (r_fn en135 hf rfl) (spec_l01Inverse_ok  hx6) fun v w' hΦ => ?_
      obtain ⟨hb, hΦ⟩ := hΦ
      obtain rfl := hΦ
      have hE := Ext.new (ρ := ρ) 5 hb
      exact ⟨_, hw.new 5 hb, hE, rfl⟩
  intro ρ w a hw hG hf hd
  obtain ⟨o1, o2⟩ := hG
  obtain ⟨_, hf, rfl⟩ := got (hd 0 (by decide)) hf
  obtain ⟨_, hf, rfl⟩ := got (hd 2 (by decide)) hf
  obtain ⟨_, hf, rfl⟩ := got (hd 5 (by decide)) hf
  obtain ⟨x7, hx8, hF⟩ := of_bind hF
  refine st_fn 6 hw hf rfl rfl (by decide) (r_fn en178 hf rfl) (spec_l01Scale_ok  hx8) fun a v w ρ hf hw hE hN hΦ => ?_
  obtain rfl := hΦ
  replace o1 := o1.ext hE
  replace o2 := o2.ext hE
  refine s_ hf (r_fa fa78_0 hf rfl) fun a hf => ?_
  refine sk_ hf (r_store_l (b := x7) hw o1 (by decide) lProd_0 (by simp only [Nat.zero_add] <;> rfl) ty39 hf rfl rfl rfl) fun a w hf hΦ => ?_
  obtain ⟨hw, hA, o1⟩ := hΦ
  replace o2 := o2.adv hA (by decide)
  refine c_nt <| c_seq ?_
  obtain ⟨x9, hx10, hF⟩ := of_bind hF
  replace hf : Fr 38 a [(0, vI a0), (3, .pointer (some ((⟨g1, 0, none⟩ : Addr).add 0))), (4, .pointer (some ((⟨g2, 0, none⟩ : Addr).add 0))), (5, vI x1), (6, vI x3)] := hf.sub ⟨rfl, rfl, rfl, rfl, rfl, trivial⟩
  refine c_drawL (h := 6) mixed (by kernel_rfl) (by kernel_rfl) (fun ρ w => Va ρ w 1 g1 78 (cProd.enc (x7, a1.2.1, a1.2.2)) ∧ Va ρ w 2 g2 78 (cProd.enc zProd)) ?_ [fun ρ w v => vI a0 = v, fun ρ w v => .pointer (some ((⟨g1, 0, none⟩ : Addr).add (0 + 9))) = v, fun ρ w v => .agg (cForm.enc ((x7, a1.2.1, a1.2.2).2.1)).toArray = v, fun ρ w v => vI a0 = v, fun ρ w v => vI x3 = v, fun ρ w v => vI x9 = v] ?_ hw ⟨o1, o2⟩ hf ?_ ?_
  · intro ρ w ρ' w' hE hG
    obtain ⟨o1, o2⟩ := hG
    exact ⟨o1.ext hE, o2.ext hE⟩
  · exact LastsL.cons (fun _ _ _ _ _ _ h => h) <| LastsL.cons (fun _ _ _ _ _ _ h => h) <| LastsL.cons (fun _ _ _ _ _ _ h => h) <| LastsL.cons (fun _ _ _ _ _ _ h => h) <| LastsL.cons (fun _ _ _ _ _ _ h => h) <| LastsL.cons (fun _ _ _ _ _ _ h => h) <| LastsL.nil
  · refine StepsB.cons ?_ <| StepsB.cons ?_ <| StepsB.cons ?_ <| StepsB.cons ?_ <| StepsB.cons ?_ <| StepsB.cons ?_ <| StepsB.nil
    · intro ρ w a hw hG hf hd K hK
      obtain ⟨o1, o2⟩ := hG
      exact dv_ hK hw (wn rfl) (r_move hf rfl) rfl
    · intro ρ w a hw hG hf hd K hK
      obtain ⟨o1, o2⟩ := hG
      exact dv_ hK hw (wn rfl) (r_fa fa78_1 hf rfl) rfl
    · intro ρ w a hw hG hf hd K hK
      obtain ⟨o1, o2⟩ := hG
      obtain ⟨_, hf, rfl⟩ := got (hd 1 (by kernel_rfl)) hf
      exact dv_ hK hw (wn rfl) (r_load_agg ty39 hf rfl (o1.cl.lens lProd_1) (cForm.len _)) rfl
    · intro ρ w a hw hG hf hd K hK
      obtain ⟨o1, o2⟩ := hG
      exact dv_ hK hw (wn rfl) (r_move hf rfl) rfl
    · intro ρ w a hw hG hf hd K hK
      obtain ⟨o1, o2⟩ := hG
      exact dv_ hK hw (wn rfl) (r_move hf rfl) rfl
    · intro ρ w a hw hG hf hd K hK
      obtain ⟨o1, o2⟩ := hG
      obtain ⟨_, hf, rfl⟩ := got (hd 3 (by kernel_rfl)) hf
      obtain ⟨_, hf, rfl⟩ := got (hd 4 (by kernel_rfl)) hf
      refine dc_ hK hw (wn rfl) (r_fn en135 hf rfl) (spec_l01Inverse_ok  hx10) fun v w' hΦ => ?_
      obtain ⟨hb, hΦ⟩ := hΦ
      obtain rfl := hΦ
      have hE := Ext.new (ρ := ρ) 7 hb
      exact ⟨_, hw.new 7 hb, hE, rfl⟩
  intro ρ w a hw hG hf hd
  obtain ⟨o1, o2⟩ := hG
  obtain ⟨_, hf, rfl⟩ := got (hd 0 (by decide)) hf
  obtain ⟨_, hf, rfl⟩ := got (hd 2 (by decide)) hf
  obtain ⟨_, hf, rfl⟩ := got (hd 5 (by decide)) hf
  obtain ⟨x11, hx12, hF⟩ := of_bind hF
  refine st_fn 8 hw hf rfl rfl (by decide) (r_fn en178 hf rfl) (spec_l01Scale_ok  hx12) fun a v w ρ hf hw hE hN hΦ => ?_
  obtain rfl := hΦ
  replace o1 := o1.ext hE
  replace o2 := o2.ext hE
  refine s_ hf (r_fa fa78_1 hf rfl) fun a hf => ?_
  refine sk_ hf (r_store_l (b := x11) hw o1 (by decide) lProd_1 (by simp only [Nat.zero_add] <;> rfl) ty39 hf rfl rfl rfl) fun a w hf hΦ => ?_
  obtain ⟨hw, hA, o1⟩ := hΦ
  replace o2 := o2.adv hA (by decide)
  refine c_nt <| c_seq <| c_region ?_
  refine s_ hf (r_move hf rfl) fun a hf => ?_
  refine s_ hf (r_fa fa78_2 hf rfl) fun a hf => ?_
  refine s_ hf (r_load_agg ty39 hf rfl (o1.cl.lens lProd_2) (cForm.len _)) fun a hf => ?_
  refine s_ hf (r_move hf rfl) fun a hf => ?_
  refine s_ hf (r_move hf rfl) fun a hf => ?_
  refine s_ hf (r_mul hf rfl rfl) fun a hf => ?_
  obtain ⟨x13, hx14, hF⟩ := of_bind hF
  refine st_fn 9 hw hf rfl rfl (by decide) (r_fn en178 hf rfl) (spec_l01Scale_ok  hx14) fun a v w ρ hf hw hE hN hΦ => ?_
  obtain rfl := hΦ
  replace o1 := o1.ext hE
  replace o2 := o2.ext hE
  refine s_ hf (r_fa fa78_2 hf rfl) fun a hf => ?_
  refine sk_ hf (r_store_l (b := x13) hw o1 (by decide) lProd_2 (by simp only [Nat.zero_add] <;> rfl) ty39 hf rfl rfl rfl) fun a w hf hΦ => ?_
  obtain ⟨hw, hA, o1⟩ := hΦ
  replace o2 := o2.adv hA (by decide)
  refine c_nt <| c_seq <| c_region ?_
  refine s_ hf (r_load_agg ty78 hf rfl o1.cl (cProd.len _)) fun a hf => ?_
  refine sk_ hf (r_store_w (cs' := cProd.enc (((x7, a1.2.1, a1.2.2).1, x11, (x7, a1.2.1, a1.2.2).2.2).1, ((x7, a1.2.1, a1.2.2).1, x11, (x7, a1.2.1, a1.2.2).2.2).2.1, x13)) hw o2 (by decide) ty78 (cProd.len _) (cProd.len _) (cProd.one _) hf rfl rfl rfl) fun a w hf hΦ => ?_
  obtain ⟨hw, hA, o2⟩ := hΦ
  replace o1 := o1.adv hA (by decide)
  refine c_nt <| c_retc ?_
  obtain rfl := Option.some.inj hF
  refine c_ret hf (res_cell Try.results166 ty78 hf rfl o2.cl (cProd.len _)) ?_
  exact ⟨_, rfl, hw.below, rfl⟩
/-! f113 -/
noncomputable def impl_normals_l1 (a0 : Sch) (s2 : Int) (s3 : List Prod) : Option (LR (Int × (List Prod)) Sch) :=
  if (decide (s2 < (a0.ps.length : Int))) = true then (if 0 ≤ s2 ∧ s2 < (a0.ps.length : Int) then ((impl_normal a0.p (gl zProd a0.ps s2)).bind fun x8 => if (s3.length + ([x8]).length) * 27 ≤ 140737488355328 then (some (.next (w64 (s2 + 1), (s3 ++ [x8])))) else none) else none) else (some (.stop (s2, s3)))
noncomputable def impl_normals (a0 : Sch) : Option Sch :=
  (iter (fun s => impl_normals_l1 a0 s.1 s.2) (0, ([] : List Prod))).bind fun o => match o with | .stop (s2, s3) => ((impl_with a0 s3).bind fun x12 => some (x12)) | .ret r => some r | .next _ => none
theorem impl_normals_ok {w0 : World} {a0 : Sch} {va0 : Value} (h0 : Ro (kf cProd) w0 va0 a0.ps) {r : Sch} (hF : impl_normals a0 = some r) :
    Calls Try.prog 113 [.agg ([vI a0.p, vI a0.n, vI a0.m, vI a0.k, va0]).toArray].toArray w0 fun e w => ∃ v, e = .returned v ∧ Below w0.heap.size w0 w ∧ ∃ u0, .agg [.int .i64 r.p, .int .i64 r.n, .int .i64 r.m, .int .i64 r.k, u0].toArray = v ∧ Fresh (kf cProd) 78 w0 w u0 r.ps := by
  refine calls_of (k := 25) Try.func113 rfl rfl (Nat.le_of_ble_eq_true rfl) fun a hf => ?_
  replace hf : Fr 25 a [(0, .agg ([vI a0.p, vI a0.n, vI a0.m, vI a0.k, va0]).toArray)] := hf
  refine c_start fun w ρ hw => ?_
  unfold impl_normals at hF
  refine c_seq <| c_region ?_
  refine sx_ hf (r_box (cs := [vI a0.p, vI a0.n, vI a0.m, vI a0.k, va0]) 1 hw hf rfl rfl) fun a v w hf hΦ => ?_
  obtain ⟨g1, ρ, rfl, hw, hE, o1⟩ := hΦ
  have o3 : Ow (kf cProd) 78 ρ w w0.heap.size 3 (.slice none 0 0) [] := Ow.nil _ _ _ _ _ _
  refine sx_ hf (r_alloc (cs := [vI 0, vI 0, vI 0, vI 0, (.slice none 0 0)]) 2 ze28 rfl hw) fun a v w hf hΦ => ?_
  obtain ⟨g2, ρ, rfl, hw, hE, o2⟩ := hΦ
  replace o1 := o1.ext hE
  replace o3 := o3.ext hE
  refine c_nt <| c_seq <| c_region ?_
  refine sx_ hf (r_lit (d := cProd) (xs := ([] : List Prod)) (vs := []) 4 Try.underlying26 el78 (Nat.le_of_ble_eq_true rfl) (Nat.le_of_ble_eq_true rfl) hw hf rfl rfl rfl) fun a v4 w hf hΦ => ?_
  obtain ⟨ρ, hw, hE, o4⟩ := hΦ
  replace o1 := o1.ext hE
  replace o3 := o3.ext hE
  replace o2 := o2.ext hE
  refine s_ hf (r_assign hf rfl) fun a hf => ?_
  refine c_nt <| c_seq <| c_seq <| c_region ?_
  refine s_ hf (r_fa fa28_4 hf rfl) fun a hf => ?_
  refine s_ hf (r_load_cell ty26 hf rfl (o1.cl.at_ 4 _ rfl)) fun a hf => ?_
  refine s_ hf (r_len Try.underlying26 (h0.now hw) hf rfl) fun a hf => ?_
  refine s_ hf (r_move hf rfl) fun a hf => ?_
  refine c_nt ?_
  obtain ⟨ol1, ho1, hG1⟩ := of_bind hF
  clear hF
  refine c_block (c_loop (id := 0) (fun s => impl_normals_l1 a0 s.1 s.2) (fun (s : Int × (List Prod)) a w => match s with | (s2, s3) => ∃ ρ v4, Wd w0 ρ w ∧ Fr 25 a [(1, .pointer (some ((⟨g1, 0, none⟩ : Addr).add 0))), (2, .pointer (some ((⟨g2, 0, none⟩ : Addr).add 0))), (3, v4), (8, va0), (9, vI (a0.ps.length : Int)), (10, vI s2)] ∧ Va ρ w 1 g1 28 ([vI a0.p, vI a0.n, vI a0.m, vI a0.k, va0]) ∧ Va ρ w 2 g2 28 ([vI 0, vI 0, vI 0, vI 0, (.slice none 0 0)]) ∧ O78 ρ w w0 3 (.slice none 0 0) ([] : List Prod) ∧ O78 ρ w w0 4 v4 s3) (fun (s : Int × (List Prod)) a w => match s with | (s2, s3) => ∃ ρ v4, Wd w0 ρ w ∧ Fr 25 a [(1, .pointer (some ((⟨g1, 0, none⟩ : Addr).add 0))), (2, .pointer (some ((⟨g2, 0, none⟩ : Addr).add 0))), (3, v4)] ∧ Va ρ w 1 g1 28 ([vI a0.p, vI a0.n, vI a0.m, vI a0.k, va0]) ∧ Va ρ w 2 g2 28 ([vI 0, vI 0, vI 0, vI 0, (.slice none 0 0)]) ∧ O78 ρ w w0 3 (.slice none 0 0) ([] : List Prod) ∧ O78 ρ w w0 4 v4 s3) ho1 ⟨_, _, hw, hf.sub ⟨rfl, rfl, rfl, rfl, rfl, rfl, trivial⟩, o1, o2, o3, o4⟩ ?_ ?_)
  · rintro ⟨s2, s3⟩ lr a w ⟨ρ, v4, hw, hf, o1, o2, o3, o4⟩ hF
    replace hF : impl_normals_l1 a0 s2 s3 = some lr := hF
    unfold impl_normals_l1 at hF
    refine c_seq <| c_region ?_
    refine s_ hf (r_lss hf rfl rfl) fun a hf => ?_
    refine c_nt <| c_seq ?_
    rcases of_ite hF with ⟨hb5, hF⟩ | ⟨hb5, hF⟩
    rotate_left
    · refine c_iff hf rfl hb5 <| c_exit <| x_then ?_
      obtain rfl := Option.some.inj hF
      exact Rnd.stops ⟨_, _, hw, hf.sub ⟨rfl, rfl, rfl, trivial⟩, o1, o2, o3, o4⟩
    refine c_ift hf rfl hb5 <| c_skip <| n_then <| c_seq <| c_block <| c_seq <| c_region ?_
    obtain ⟨hc6, hF⟩ := of_guard hF
    obtain ⟨ad7, c7, he7, hl7⟩ := Ro.el cProd h0 zProd hc6.1 hc6.2
    refine s_ hf (r_idx Try.underlying26 sz78 hf rfl ⟨_, he7⟩ rfl hc6.1 hc6.2) fun a hf => ?_
    refine s_ hf (r_load_agg ty78 hf rfl (hl7.below hw.below) (cProd.len _)) fun a hf => ?_
    refine sx_ hf (r_alloc (cs := cProd.enc zProd) 5 ze78 rfl hw) fun a v w hf hΦ => ?_
    obtain ⟨g5, ρ, rfl, hw, hE, o5⟩ := hΦ
    replace o1 := o1.ext hE
    replace o2 := o2.ext hE
    replace o3 := o3.ext hE
    replace o4 := o4.ext hE
    refine sk_ hf (r_store_w (cs' := cProd.enc (gl zProd a0.ps s2)) hw o5 (by decide) ty78 (cProd.len _) (cProd.len _) (cProd.one _) hf rfl rfl rfl) fun a w hf hΦ => ?_
    obtain ⟨hw, hA, o5⟩ := hΦ
    replace o1 := o1.adv hA (by decide)
    replace o2 := o2.adv hA (by decide)
    replace o3 := o3.adv hA (by decide)
    replace o4 := o4.adv hA (by decide)
    refine c_nt <| c_region ?_
    refine s_ hf (r_move hf rfl) fun a hf => ?_
    refine s_ hf (r_fa fa28_0 hf rfl) fun a hf => ?_
    refine s_ hf (r_load_cell ty2 hf rfl (o1.cl.at_ 0 _ rfl)) fun a hf => ?_
    refine s_ hf (r_load_agg ty78 hf rfl o5.cl (cProd.len _)) fun a hf => ?_
    obtain ⟨x8, hx9, hF⟩ := of_bind hF
    refine st_fn 6 hw hf rfl rfl (by decide) (r_fn en149 hf rfl) (impl_normal_ok  hx9) fun a v w ρ hf hw hE hN hΦ => ?_
    obtain rfl := hΦ
    replace o1 := o1.ext hE
    replace o2 := o2.ext hE
    replace o3 := o3.ext hE
    replace o4 := o4.ext hE
    replace o5 := o5.ext hE
    refine sx_ hf (r_lit (d := cProd) (xs := ([x8] : List Prod)) (vs := [.agg (cProd.enc x8).toArray]) 7 Try.underlying26 el78 (Nat.le_of_ble_eq_true rfl) (Nat.le_of_ble_eq_true rfl) hw hf rfl rfl rfl) fun a v7 w hf hΦ => ?_
    obtain ⟨ρ, hw, hE, o7⟩ := hΦ
    replace o1 := o1.ext hE
    replace o2 := o2.ext hE
    replace o3 := o3.ext hE
    replace o4 := o4.ext hE
    replace o5 := o5.ext hE
    obtain ⟨hc10, hF⟩ := of_guard hF
    refine sx_ hf (r_append Try.underlying26 el78 hw (by decide) o4 o7.ro hc10 hf rfl rfl) fun a va11 w hf hΦ => ?_
    obtain ⟨ρ, hw, hA, o4⟩ := hΦ
    replace o1 := o1.adv hA (by decide)
    replace o2 := o2.adv hA (by decide)
    replace o3 := o3.adv hA (by decide)
    replace o5 := o5.adv hA (by decide)
    replace o7 := o7.adv hA (by decide)
    refine s_ hf (r_assign hf rfl) fun a hf => ?_
    refine c_nil <| n_block <| n_then <| c_region ?_
    refine s_ hf (r_add hf rfl rfl) fun a hf => ?_
    refine s_ hf (r_move hf rfl) fun a hf => ?_
    refine c_nil ?_
    obtain rfl := Option.some.inj hF
    exact Rnd.goes ⟨_, _, hw, hf.sub ⟨rfl, rfl, rfl, rfl, rfl, rfl, trivial⟩, o1, o2, o3, o4⟩
  rintro ⟨s2, s3⟩ a w hs ⟨ρ, v4, hw, hf, o1, o2, o3, o4⟩
  subst hs
  have hF := hG1
  dsimp only at hF
  refine x_block <| n_then <| c_seq <| c_region ?_
  refine s_ hf (r_load_agg ty28 hf rfl o1.cl rfl) fun a hf => ?_
  refine s_ hf (r_move hf rfl) fun a hf => ?_
  obtain ⟨x12, hx13, hF⟩ := of_bind hF
  refine st_mfn hf rfl rfl (by decide) (r_fn en78 hf rfl) (impl_with_ok (a0 := a0) (by decide) hw h0 o4 hx13) fun a v w ρ hf hw hA hΦ => ?_
  obtain ⟨u14, rfl, o4⟩ := hΦ
  replace o1 := o1.adv hA (by decide)
  replace o2 := o2.adv hA (by decide)
  replace o3 := o3.adv hA (by decide)
  refine sk_ hf (r_store_w (cs' := [vI x12.p, vI x12.n, vI x12.m, vI x12.k, u14]) hw o2 (by decide) ty28 rfl rfl (one_sch o4.ro.one) hf rfl rfl rfl) fun a w hf hΦ => ?_
  obtain ⟨hw, hA, o2⟩ := hΦ
  replace o1 := o1.adv hA (by decide)
  replace o3 := o3.adv hA (by decide)
  replace o4 := o4.adv hA (by decide)
  refine c_nt <| c_retc ?_
  obtain rfl := Option.some.inj hF
  refine c_ret hf (res_cell Try.results113 ty28 hf rfl o2.cl rfl) ?_
  exact ⟨_, rfl, hw.below, ⟨_, rfl, o4.out⟩⟩
/-! f147 -/
noncomputable def spec_l03AllNormal_l5 (a0 : Sch) (s6 : Int) (s7 : List Prod) : Option (LR (Int × (List Prod)) Sch) :=
  if (decide (s6 < (a0.ps.length : Int))) = true then (if 0 ≤ s6 ∧ s6 < (a0.ps.length : Int) then ((spec_l03Normal a0.p (gl zProd a0.ps s6)).bind fun x12 => if (s7.length + ([x12]).length) * 27 ≤ 140737488355328 then (some (.next (w64 (s6 + 1), (s7 ++ [x12])))) else none) else none) else (some (.stop (s6, s7)))
noncomputable def spec_l03AllNormal (a0 : Sch) : Option Sch :=
  (spec_l01Empty a0).bind fun x1 => (iter (fun s => spec_l03AllNormal_l5 a0 s.1 s.2) (0, x1.ps)).bind fun o => match o with | .stop (s6, s7) => (some ((⟨x1.p, x1.n, x1.m, x1.k, s7⟩ : Sch))) | .ret r => some r | .next _ => none
theorem spec_l03AllNormal_ok {w0 : World} {a0 : Sch} {va0 : Value} (h0 : Ro (kf cProd) w0 va0 a0.ps) {r : Sch} (hF : spec_l03AllNormal a0 = some r) :
    Calls Try.prog 147 [.agg ([vI a0.p, vI a0.n, vI a0.m, vI a0.k, va0]).toArray].toArray w0 fun e w => ∃ v, e = .returned v ∧ Below w0.heap.size w0 w ∧ ∃ u0, .agg [.int .i64 r.p, .int .i64 r.n, .int .i64 r.m, .int .i64 r.k, u0].toArray = v ∧ Fresh (kf cProd) 78 w0 w u0 r.ps := by
  refine calls_of (k := 28) Try.func147 rfl rfl (Nat.le_of_ble_eq_true rfl) fun a hf => ?_
  replace hf : Fr 28 a [(0, .agg ([vI a0.p, vI a0.n, vI a0.m, vI a0.k, va0]).toArray)] := hf
  refine c_start fun w ρ hw => ?_
  unfold spec_l03AllNormal at hF
  refine c_seq <| c_region ?_
  refine sx_ hf (r_box (cs := [vI a0.p, vI a0.n, vI a0.m, vI a0.k, va0]) 1 hw hf rfl rfl) fun a v w hf hΦ => ?_
  obtain ⟨g1, ρ, rfl, hw, hE, o1⟩ := hΦ
  have o3 : Ow (kf cProd) 78 ρ w w0.heap.size 3 (.slice none 0 0) [] := Ow.nil _ _ _ _ _ _
  refine sx_ hf (r_alloc (cs := [vI 0, vI 0, vI 0, vI 0, (.slice none 0 0)]) 2 ze28 rfl hw) fun a v w hf hΦ => ?_
  obtain ⟨g2, ρ, rfl, hw, hE, o2⟩ := hΦ
  replace o1 := o1.ext hE
  replace o3 := o3.ext hE
  refine c_nt <| c_seq <| c_region ?_
  refine s_ hf (r_load_agg ty28 hf rfl o1.cl rfl) fun a hf => ?_
  obtain ⟨x1, hx2, hF⟩ := of_bind hF
  refine st_fn 4 hw hf rfl rfl (by decide) (r_fn en130 hf rfl) (spec_l01Empty_ok (a0 := a0) (h0.now hw) hx2) fun a v w ρ hf hw hE hN hΦ => ?_
  obtain ⟨u3, rfl, hr4⟩ := hΦ
  replace o1 := o1.ext hE
  replace o3 := o3.ext hE
  replace o2 := o2.ext hE
  have o4 := hN hr4
  have o6 : Ow (kf cProd) 78 ρ w w0.heap.size 6 (.slice none 0 0) [] := Ow.nil _ _ _ _ _ _
  refine sx_ hf (r_alloc (cs := [vI 0, vI 0, vI 0, vI 0, (.slice none 0 0)]) 5 ze28 rfl hw) fun a v w hf hΦ => ?_
  obtain ⟨g5, ρ, rfl, hw, hE, o5⟩ := hΦ
  replace o1 := o1.ext hE
  replace o3 := o3.ext hE
  replace o2 := o2.ext hE
  replace o4 := o4.ext hE
  replace o6 := o6.ext hE
  refine sk_ hf (r_store_w (cs' := [vI x1.p, vI x1.n, vI x1.m, vI x1.k, u3]) hw o5 (by decide) ty28 rfl rfl (one_sch o4.ro.one) hf rfl rfl rfl) fun a w hf hΦ => ?_
  obtain ⟨hw, hA, o5⟩ := hΦ
  replace o1 := o1.adv hA (by decide)
  replace o3 := o3.adv hA (by decide)
  replace o2 := o2.adv hA (by decide)
  replace o4 := o4.adv hA (by decide)
  replace o6 := o6.adv hA (by decide)
  refine c_nt <| c_seq <| c_seq <| c_region ?_
  refine s_ hf (r_assign hf rfl) fun a hf => ?_
  refine c_nt ?_
  obtain ⟨ol5, ho5, hG5⟩ := of_bind hF
  clear hF
  refine c_block (c_loop (id := 0) (fun s => spec_l03AllNormal_l5 a0 s.1 s.2) (fun (s : Int × (List Prod)) a w => match s with | (s6, s7) => ∃ ρ v8, Wd w0 ρ w ∧ Fr 28 a [(1, .pointer (some ((⟨g1, 0, none⟩ : Addr).add 0))), (2, .pointer (some ((⟨g2, 0, none⟩ : Addr).add 0))), (3, .pointer (some ((⟨g5, 0, none⟩ : Addr).add 0))), (4, vI s6)] ∧ Va ρ w 1 g1 28 ([vI a0.p, vI a0.n, vI a0.m, vI a0.k, va0]) ∧ Va ρ w 2 g2 28 ([vI 0, vI 0, vI 0, vI 0, (.slice none 0 0)]) ∧ O78 ρ w w0 3 (.slice none 0 0) ([] : List Prod) ∧ O78 ρ w w0 4 v8 s7 ∧ Va ρ w 5 g5 28 ([vI x1.p, vI x1.n, vI x1.m, vI x1.k, v8])) (fun (s : Int × (List Prod)) a w => match s with | (s6, s7) => ∃ ρ v8, Wd w0 ρ w ∧ Fr 28 a [(2, .pointer (some ((⟨g2, 0, none⟩ : Addr).add 0))), (3, .pointer (some ((⟨g5, 0, none⟩ : Addr).add 0)))] ∧ Va ρ w 2 g2 28 ([vI 0, vI 0, vI 0, vI 0, (.slice none 0 0)]) ∧ O78 ρ w w0 3 (.slice none 0 0) ([] : List Prod) ∧ O78 ρ w w0 4 v8 s7 ∧ Va ρ w 5 g5 28 ([vI x1.p, vI x1.n, vI x1.m, vI x1.k, v8])) ho5 ⟨_, _, hw, hf.sub ⟨rfl, rfl, rfl, rfl, trivial⟩, o1, o2, o3, o4, o5⟩ ?_ ?_)
  · rintro ⟨s6, s7⟩ lr a w ⟨ρ, v8, hw, hf, o1, o2, o3, o4, o5⟩ hF
    replace hF : spec_l03AllNormal_l5 a0 s6 s7 = some lr := hF
    unfold spec_l03AllNormal_l5 at hF
    refine c_seq <| c_seq <| c_region ?_
    refine s_ hf (r_move hf rfl) fun a hf => ?_
    refine s_ hf (r_fa fa28_4 hf rfl) fun a hf => ?_
    refine s_ hf (r_load_cell ty26 hf rfl (o1.cl.at_ 4 _ rfl)) fun a hf => ?_
    refine s_ hf (r_len Try.underlying26 (h0.now hw) hf rfl) fun a hf => ?_
    refine s_ hf (r_lss hf rfl rfl) fun a hf => ?_
    refine c_nt ?_
    rcases of_ite hF with ⟨hb9, hF⟩ | ⟨hb9, hF⟩
    rotate_left
    · refine c_iff hf rfl hb9 <| c_exit <| x_then ?_
      obtain rfl := Option.some.inj hF
      exact Rnd.stops ⟨_, _, hw, hf.sub ⟨rfl, rfl, trivial⟩, o2, o3, o4, o5⟩
    refine c_ift hf rfl hb9 <| c_skip <| n_then <| c_seq <| c_block ?_
    obtain ⟨hc10, hF⟩ := of_guard hF
    obtain ⟨ad11, c11, he11, hl11⟩ := Ro.el cProd h0 zProd hc10.1 hc10.2
    obtain ⟨x12, hx13, hF⟩ := of_bind hF
    replace hf : Fr 28 a [(1, .pointer (some ((⟨g1, 0, none⟩ : Addr).add 0))), (2, .pointer (some ((⟨g2, 0, none⟩ : Addr).add 0))), (3, .pointer (some ((⟨g5, 0, none⟩ : Addr).add 0))), (4, vI s6)] := hf.sub ⟨rfl, rfl, rfl, rfl, trivial⟩
    refine c_drawL (h := 11) mixed (by kernel_rfl) (by kernel_rfl) (fun ρ w => Va ρ w 1 g1 28 ([vI a0.p, vI a0.n, vI a0.m, vI a0.k, va0]) ∧ Va ρ w 2 g2 28 ([vI 0, vI 0, vI 0, vI 0, (.slice none 0 0)]) ∧ O78 ρ w w0 3 (.slice none 0 0) ([] : List Prod) ∧ O78 ρ w w0 4 v8 s7 ∧ Va ρ w 5 g5 28 ([vI x1.p, vI x1.n, vI x1.m, vI x1.k, v8])) ?_ [fun ρ w v => .pointer (some ((⟨g5, 0, none⟩ : Addr).add (0 + 4))) = v, fun ρ w v => v8 = v, fun ρ w v => .pointer (some ((⟨g1, 0, none⟩ : Addr).add (0 + 0))) = v, fun ρ w v => vI a0.p = v, fun ρ w v => .pointer (some ((⟨g1, 0, none⟩ : Addr).add (0 + 4))) = v, fun ρ w v => va0 = v, fun ρ w v => vI s6 = v, fun ρ w v => .pointer (some (ad11.add (s6.toNat * 27))) = v, fun ρ w v => .agg (cProd.enc (gl zProd a0.ps s6)).toArray = v, fun ρ w v => .agg (cProd.enc x12).toArray = v, fun ρ w v => ∃ v8, v8 = v ∧ O78 ρ w w0 8 v8 ([x12])] ?_ hw ⟨o1, o2, o3, o4, o5⟩ hf ?_ ?_
    · intro ρ w ρ' w' hE hG
      obtain ⟨o1, o2, o3, o4, o5⟩ := hG
      exact ⟨o1.ext hE, o2.ext hE, o3.ext hE, o4.ext hE, o5.ext hE⟩
    · exact LastsL.cons (fun _ _ _ _ _ _ h => h) <| LastsL.cons (fun _ _ _ _ _ _ h => h) <| LastsL.cons (fun _ _ _ _ _ _ h => h) <| LastsL.cons (fun _ _ _ _ _ _ h => h) <| LastsL.cons (fun _ _ _ _ _ _ h => h) <| LastsL.cons (fun _ _ _ _ _ _ h => h) <| LastsL.cons (fun _ _ _ _ _ _ h => h) <| LastsL.cons (fun _ _ _ _ _ _ h => h) <| LastsL.cons (fun _ _ _ _ _ _ h => h) <| LastsL.cons (fun _ _ _ _ _ _ h => h) <| LastsL.cons (fun _ _ _ _ _ hE h => by obtain ⟨v8, h, o8⟩ := h; exact ⟨_, h, o8.ext hE⟩) <| LastsL.nil
    · refine StepsB.cons ?_ <| StepsB.cons ?_ <| StepsB.cons ?_ <| StepsB.cons ?_ <| StepsB.cons ?_ <| StepsB.cons ?_ <| StepsB.cons ?_ <| StepsB.cons ?_ <| StepsB.cons ?_ <| StepsB.cons ?_ <| StepsB.cons ?_ <| StepsB.nil
      · intro ρ w a hw hG hf hd K hK
        obtain ⟨o1, o2, o3, o4, o5⟩ := hG
        exact dv_ hK hw (wn rfl) (r_fa fa28_4 hf rfl) rfl
      · intro ρ w a hw hG hf hd K hK
        obtain ⟨o1, o2, o3, o4, o5⟩ := hG
        obtain ⟨_, hf, rfl⟩ := got (hd 0 (by kernel_rfl)) hf
        exact dv_ hK hw (wn rfl) (r_load_cell ty26 hf rfl (o5.cl.at_ 4 _ rfl)) rfl
      · intro ρ w a hw hG hf hd K hK
        obtain ⟨o1, o2, o3, o4, o5⟩ := hG
        exact dv_ hK hw (wn rfl) (r_fa fa28_0 hf rfl) rfl
      · intro ρ w a hw hG hf hd K hK
        obtain ⟨o1, o2, o3, o4, o5⟩ := hG
        obtain ⟨_, hf, rfl⟩ := got (hd 2 (by kernel_rfl)) hf
        exact dv_ hK hw (wn rfl) (r_load_cell ty2 hf rfl (o1.cl.at_ 0 _ rfl)) rfl
      · intro ρ w a hw hG hf hd K hK
        obtain ⟨o1, o2, o3, o4, o5⟩ := hG
        exact dv_ hK hw (wn rfl) (r_fa fa28_4 hf rfl) rfl
      · intro ρ w a hw hG hf hd K hK
        obtain ⟨o1, o2, o3, o4, o5⟩ := hG
        obtain ⟨_, hf, rfl⟩ := got (hd 4 (by kernel_rfl)) hf
        exact dv_ hK hw (wn rfl) (r_load_cell ty26 hf rfl (o1.cl.at_ 4 _ rfl)) rfl
      · intro ρ w a hw hG hf hd K hK
        obtain ⟨o1, o2, o3, o4, o5⟩ := hG
        exact dv_ hK hw (wn rfl) (r_move hf rfl) rfl
      · intro ρ w a hw hG hf hd K hK
        obtain ⟨o1, o2, o3, o4, o5⟩ := hG
        obtain ⟨_, hf, rfl⟩ := got (hd 5 (by kernel_rfl)) hf
        obtain ⟨_, hf, rfl⟩ := got (hd 6 (by kernel_rfl)) hf
        exact dv_ hK hw (wn rfl) (r_idx Try.underlying26 sz78 hf rfl ⟨_, he11⟩ rfl hc10.1 hc10.2) rfl
      · intro ρ w a hw hG hf hd K hK
        obtain ⟨o1, o2, o3, o4, o5⟩ := hG
        obtain ⟨_, hf, rfl⟩ := got (hd 7 (by kernel_rfl)) hf
        exact dv_ hK hw (wn rfl) (r_load_agg ty78 hf rfl (hl11.below hw.below) (cProd.len _)) rfl
      · intro ρ w a hw hG hf hd K hK
        obtain ⟨o1, o2, o3, o4, o5⟩ := hG
        obtain ⟨_, hf, rfl⟩ := got (hd 3 (by kernel_rfl)) hf
        obtain ⟨_, hf, rfl⟩ := got (hd 8 (by kernel_rfl)) hf
        refine dc_ hK hw (wn rfl) (r_fn en166 hf rfl) (spec_l03Normal_ok  hx13) fun v w' hΦ => ?_
        obtain ⟨hb, hΦ⟩ := hΦ
        obtain rfl := hΦ
        have hE := Ext.new (ρ := ρ) 7 hb
        exact ⟨_, hw.new 7 hb, hE, rfl⟩
      · intro ρ w a hw hG hf hd K hK
        obtain ⟨o1, o2, o3, o4, o5⟩ := hG
        obtain ⟨_, hf, rfl⟩ := got (hd 9 (by kernel_rfl)) hf
        refine dx_ hK hw (wn rfl) (r_lit (d := cProd) (xs := ([x12] : List Prod)) (vs := [.agg (cProd.enc x12).toArray]) 8 Try.underlying26 el78 (Nat.le_of_ble_eq_true rfl) (Nat.le_of_ble_eq_true rfl) hw hf rfl rfl rfl) fun v8 w' hΦ => ?_
        obtain ⟨ρ, hw, hE, o8⟩ := hΦ
        exact ⟨_, hw, hE, ex_ <| an_ rfl <| o8⟩
    intro ρ w a hw hG hf hd
    obtain ⟨o1, o2, o3, o4, o5⟩ := hG
    obtain ⟨_, hf, rfl⟩ := got (hd 1 (by decide)) hf
    obtain ⟨_, hf, ⟨v8, rfl, o8⟩⟩ := got (hd 10 (by decide)) hf
    obtain ⟨hc14, hF⟩ := of_guard hF
    refine sx_ hf (r_append Try.underlying26 el78 hw (by decide) o4 o8.ro hc14 hf rfl rfl) fun a va15 w hf hΦ => ?_
    obtain ⟨ρ, hw, hA, o4⟩ := hΦ
    replace o1 := o1.adv hA (by decide)
    replace o2 := o2.adv hA (by decide)
    replace o3 := o3.adv hA (by decide)
    replace o5 := o5.adv hA (by decide)
    replace o8 := o8.adv hA (by decide)
    refine s_ hf (r_fa fa28_4 hf rfl) fun a hf => ?_
    refine sk_ hf (r_store_c hw o5 (by decide) ty26 (Nat.le_of_ble_eq_true rfl) hf rfl rfl o4.ro.cells1 o4.ro.one) fun a w hf hΦ => ?_
    obtain ⟨hw, hA, o5⟩ := hΦ
    replace o1 := o1.adv hA (by decide)
    replace o2 := o2.adv hA (by decide)
    replace o3 := o3.adv hA (by decide)
    replace o4 := o4.adv hA (by decide)
    replace o8 := o8.adv hA (by decide)
    replace o5 : Va ρ w 5 g5 28 ([vI x1.p, vI x1.n, vI x1.m, vI x1.k, va15]) := o5
    refine c_nil <| n_block <| n_then <| c_region ?_
    refine s_ hf (r_move hf rfl) fun a hf => ?_
    refine s_ hf (r_add hf rfl rfl) fun a hf => ?_
    refine s_ hf (r_assign hf rfl) fun a hf => ?_
    refine c_nil ?_
    obtain rfl := Option.some.inj hF
    exact Rnd.goes ⟨_, _, hw, hf.sub ⟨rfl, rfl, rfl, rfl, trivial⟩, o1, o2, o3, o4, o5⟩
  rintro ⟨s6, s7⟩ a w hs ⟨ρ, v8, hw, hf, o2, o3, o4, o5⟩
  subst hs
  have hF := hG5
  dsimp only at hF
  refine x_block <| n_then <| c_seq <| c_region ?_
  refine s_ hf (r_load_agg ty28 hf rfl o5.cl rfl) fun a hf => ?_
  refine sk_ hf (r_store_w (cs' := [vI x1.p, vI x1.n, vI x1.m, vI x1.k, v8]) hw o2 (by decide) ty28 rfl rfl (one_sch o4.ro.one) hf rfl rfl rfl) fun a w hf hΦ => ?_
  obtain ⟨hw, hA, o2⟩ := hΦ
  replace o3 := o3.adv hA (by decide)
  replace o4 := o4.adv hA (by decide)
  replace o5 := o5.adv hA (by decide)
  refine c_nt <| c_retc ?_
  obtain rfl := Option.some.inj hF
  refine c_ret hf (res_cell Try.results147 ty28 hf rfl o2.cl rfl) ?_
  exact ⟨_, rfl, hw.below, ⟨_, rfl, o4.out⟩⟩
/-! f170 -/
noncomputable def impl_times_l1 (a0 : Int) (a1 : Form) (a2 : Form) (s2 : Int) : Option (LR Int Int) :=
  if (decide (s2 < a0)) = true then ((impl_multiple a0 a1 s2).bind fun x4 => if (decide (x4 = a2)) = true then (some (.ret s2)) else (some (.next (w64 (s2 + 1))))) else (some (.stop s2))
noncomputable def impl_times (a0 : Int) (a1 : Form) (a2 : Form) : Option Int :=
  (iter (fun s => impl_times_l1 a0 a1 a2 s) 1).bind fun o => match o with | .stop s2 => (some (0)) | .ret r => some r | .next _ => none
theorem impl_times_ok {w0 : World} {a0 : Int} {a1 : Form} {a2 : Form}   {r : Int} (hF : impl_times a0 a1 a2 = some r) :
    Calls Try.prog 170 [vI a0, .agg (cForm.enc a1).toArray, .agg (cForm.enc a2).toArray].toArray w0 fun e w => ∃ v, e = .returned v ∧ Below w0.heap.size w0 w ∧ .int .i64 r = v := by
  refine calls_of (k := 20) Try.func170 rfl rfl (Nat.le_of_ble_eq_true rfl) fun a hf => ?_
  replace hf : Fr 20 a [(0, vI a0), (1, .agg (cForm.enc a1).toArray), (2, .agg (cForm.enc a2).toArray)] := hf
  refine c_start fun w ρ hw => ?_
  unfold impl_times at hF
  refine c_seq <| c_region ?_
  refine sx_ hf (r_box (cs := cForm.enc a1) 1 hw hf rfl rfl) fun a v w hf hΦ => ?_
  obtain ⟨g1, ρ, rfl, hw, hE, o1⟩ := hΦ
  refine sx_ hf (r_box (cs := cForm.enc a2) 2 hw hf rfl rfl) fun a v w hf hΦ => ?_
  obtain ⟨g2, ρ, rfl, hw, hE, o2⟩ := hΦ
  replace o1 := o1.ext hE
  refine s_ hf (r_assign hf rfl) fun a hf => ?_
  refine c_nt <| c_seq <| c_seq <| c_region ?_
  refine s_ hf (r_assign hf rfl) fun a hf => ?_
  refine c_nt ?_
  obtain ⟨ol1, ho1, hG1⟩ := of_bind hF
  clear hF
  refine c_block (c_loop (id := 0) (fun s => impl_times_l1 a0 a1 a2 s) (fun (s2 : Int) a w => ∃ ρ, Wd w0 ρ w ∧ Fr 20 a [(0, vI a0), (4, .pointer (some ((⟨g1, 0, none⟩ : Addr).add 0))), (5, .pointer (some ((⟨g2, 0, none⟩ : Addr).add 0))), (7, vI s2)] ∧ Va ρ w 1 g1 39 (cForm.enc a1) ∧ Va ρ w 2 g2 39 (cForm.enc a2)) (fun (s2 : Int) a w => ∃ ρ, Wd w0 ρ w ∧ Fr 20 a []) ho1 ⟨_, hw, hf.sub ⟨rfl, rfl, rfl, rfl, trivial⟩, o1, o2⟩ ?_ ?_)
  · rintro s2 lr a w ⟨ρ, hw, hf, o1, o2⟩ hF
    replace hF : impl_times_l1 a0 a1 a2 s2 = some lr := hF
    unfold impl_times_l1 at hF
    refine c_seq <| c_seq <| c_region ?_
    refine s_ hf (r_move hf rfl) fun a hf => ?_
    refine s_ hf (r_move hf rfl) fun a hf => ?_
    refine s_ hf (r_lss hf rfl rfl) fun a hf => ?_
    refine c_nt ?_
    rcases of_ite hF with ⟨hb3, hF⟩ | ⟨hb3, hF⟩
    rotate_left
    · refine c_iff hf rfl hb3 <| c_exit <| x_then ?_
      obtain rfl := Option.some.inj hF
      exact Rnd.stops ⟨_, hw, hf.sub trivial⟩
    refine c_ift hf rfl hb3 <| c_skip <| n_then <| c_seq <| c_block <| c_seq ?_
    obtain ⟨x4, hx5, hF⟩ := of_bind hF
    replace hf : Fr 20 a [(0, vI a0), (4, .pointer (some ((⟨g1, 0, none⟩ : Addr).add 0))), (5, .pointer (some ((⟨g2, 0, none⟩ : Addr).add 0))), (7, vI s2)] := hf.sub ⟨rfl, rfl, rfl, rfl, trivial⟩
    refine c_drawL (h := 5) mixed (by kernel_rfl) (by kernel_rfl) (fun ρ w => Va ρ w 1 g1 39 (cForm.enc a1) ∧ Va ρ w 2 g2 39 (cForm.enc a2)) ?_ [fun ρ w v => vI a0 = v, fun ρ w v => .agg (cForm.enc a1).toArray = v, fun ρ w v => vI s2 = v, fun ρ w v => .agg (cForm.enc x4).toArray = v, fun ρ w v => .agg (cForm.enc a2).toArray = v] ?_ hw ⟨o1, o2⟩ hf ?_ ?_
    · intro ρ w ρ' w' hE hG
      obtain ⟨o1, o2⟩ := hG
      exact ⟨o1.ext hE, o2.ext hE⟩
    · exact LastsL.cons (fun _ _ _ _ _ _ h => h) <| LastsL.cons (fun _ _ _ _ _ _ h => h) <| LastsL.cons (fun _ _ _ _ _ _ h => h) <| LastsL.cons (fun _ _ _ _ _ _ h => h) <| LastsL.cons (fun _ _ _ _ _ _ h => h) <| LastsL.nil
    · refine StepsB.cons ?_ <| StepsB.cons ?_ <| StepsB.cons ?_ <| StepsB.cons ?_ <| StepsB.cons ?_ <| StepsB.nil
      · intro ρ w a hw hG hf hd K hK
        obtain ⟨o1, o2⟩ := hG
        exact dv_ hK hw (wn rfl) (r_move hf rfl) rfl
      · intro ρ w a hw hG hf hd K hK
        obtain ⟨o1, o2⟩ := hG
        exact dv_ hK hw (wn rfl) (r_load_agg ty39 hf rfl o1.cl (cForm.len _)) rfl
      · intro ρ w a hw hG hf hd K hK
        obtain ⟨o1, o2⟩ := hG
        exact dv_ hK hw (wn rfl) (r_move hf rfl) rfl
      · intro ρ w a hw hG hf hd K hK
        obtain ⟨o1, o2⟩ := hG
        obtain ⟨_, hf, rfl⟩ := got (hd 0 (by kernel_rfl)) hf
        obtain ⟨_, hf, rfl⟩ := got (hd 1 (by kernel_rfl)) hf
        obtain ⟨_, hf, rfl⟩ := got (hd 2 (by kernel_rfl)) hf
        refine dc_ hK hw (wn rfl) (r_fn en169 hf rfl) (impl_multiple_ok  hx5) fun v w' hΦ => ?_
        obtain ⟨hb, hΦ⟩ := hΦ
        obtain rfl := hΦ
        have hE := Ext.new (ρ := ρ) 3 hb
        exact ⟨_, hw.new 3 hb, hE, rfl⟩
      · intro ρ w a hw hG hf hd K hK
        obtain ⟨o1, o2⟩ := hG
        exact dv_ hK hw (wn rfl) (r_load_agg ty39 hf rfl o2.cl (cForm.len _)) rfl
    intro ρ w a hw hG hf hd
    obtain ⟨o1, o2⟩ := hG
    obtain ⟨_, hf, rfl⟩ := got (hd 3 (by decide)) hf
    obtain ⟨_, hf, rfl⟩ := got (hd 4 (by decide)) hf
    refine s_ hf (r_eq (d := cForm) eq39 ⟨_, rfl⟩ gt39 hf rfl rfl) fun a hf => ?_
    refine c_nt ?_
    rcases of_ite hF with ⟨hb6, hF⟩ | ⟨hb6, hF⟩
    rotate_left
    · refine c_iff hf rfl hb6 <| c_skip <| n_block <| n_then <| c_region ?_
      refine s_ hf (r_move hf rfl) fun a hf => ?_
      refine s_ hf (r_add hf rfl rfl) fun a hf => ?_
      refine s_ hf (r_assign hf rfl) fun a hf => ?_
      refine c_nil ?_
      obtain rfl := Option.some.inj hF
      exact Rnd.goes ⟨_, hw, hf.sub ⟨rfl, rfl, rfl, rfl, trivial⟩, o1, o2⟩
    refine c_ift hf rfl hb6 <| c_seq <| c_region ?_
    refine s_ hf (r_move hf rfl) fun a hf => ?_
    refine s_ hf (r_assign hf rfl) fun a hf => ?_
    refine c_nt <| c_retc ?_
    obtain rfl := Option.some.inj hF
    refine r_block <| r_then ?_
    refine Rnd.rets fun ho => ?_
    subst ho
    have hF := hG1
    dsimp only at hF
    obtain rfl := Option.some.inj hF
    refine r_block <| r_then <| c_ret hf (res_tmp Try.results170 hf rfl) ?_
    exact ⟨_, rfl, hw.below, rfl⟩
  rintro s2 a w hs ⟨ρ, hw, hf⟩
  subst hs
  have hF := hG1
  dsimp only at hF
  refine x_block <| n_then <| c_seq <| c_region ?_
  refine s_ hf (r_assign hf rfl) fun a hf => ?_
  refine c_nt <| c_retc ?_
  obtain rfl := Option.some.inj hF
  refine c_ret hf (res_tmp Try.results170 hf rfl) ?_
  exact ⟨_, rfl, hw.below, rfl⟩
/-! f150 -/
noncomputable def impl_merged (a0 : Int) (a1 : Prod) (a2 : Prod) : Option (Prod × Bool) :=
  (impl_times a0 a1.2.2 a2.2.2).bind fun x1 => (if (decide (a1.1 = a2.1)) = true then (some (decide (a1.2.1 = a2.2.1))) else (some false)).bind fun (s4 : Bool) => if s4 = true then ((impl_sum a0 a1.2.2 a2.2.2 1).bind fun x7 => some (((a1.1, a1.2.1, x7), true))) else ((if (decide (a1.1 = a2.1)) = true then (some (decide (0 < x1))) else (some false)).bind fun (s10 : Bool) => if s10 = true then ((impl_sum a0 a1.2.1 a2.2.1 x1).bind fun x13 => some (((a1.1, x13, a1.2.2), true))) else ((if (decide (a1.2.1 = a2.2.1)) = true then (some (decide (0 < x1))) else (some false)).bind fun (s16 : Bool) => if s16 = true then ((impl_sum a0 a1.1 a2.1 x1).bind fun x19 => some (((x19, a1.2.1, a1.2.2), true))) else (some ((zProd, false)))))
theorem impl_merged_ok {w0 : World} {a0 : Int} {a1 : Prod} {a2 : Prod}   {r : Prod × Bool} (hF : impl_merged a0 a1 a2 = some r) :
    Calls Try.prog 150 [vI a0, .agg (cProd.enc a1).toArray, .agg (cProd.enc a2).toArray].toArray w0 fun e w => ∃ v, e = .returned v ∧ Below w0.heap.size w0 w ∧ .tuple #[.agg (cProd.enc r.1).toArray, .bool r.2] = v := by
  refine calls_of (k := 73) Try.func150 rfl rfl (Nat.le_of_ble_eq_true rfl) fun a hf => ?_
  replace hf : Fr 73 a [(0, vI a0), (1, .agg (cProd.enc a1).toArray), (2, .agg (cProd.enc a2).toArray)] := hf
  refine c_start fun w ρ hw => ?_
  unfold impl_merged at hF
  refine c_seq <| c_region ?_
  refine sx_ hf (r_box (cs := cProd.enc a1) 1 hw hf rfl rfl) fun a v w hf hΦ => ?_
  obtain ⟨g1, ρ, rfl, hw, hE, o1⟩ := hΦ
  refine sx_ hf (r_box (cs := cProd.enc a2) 2 hw hf rfl rfl) fun a v w hf hΦ => ?_
  obtain ⟨g2, ρ, rfl, hw, hE, o2⟩ := hΦ
  replace o1 := o1.ext hE
  refine sx_ hf (r_alloc (cs := cProd.enc zProd) 3 ze78 rfl hw) fun a v w hf hΦ => ?_
  obtain ⟨g3, ρ, rfl, hw, hE, o3⟩ := hΦ
  replace o1 := o1.ext hE
  replace o2 := o2.ext hE
  refine s_ hf (r_assign hf rfl) fun a hf => ?_
  refine c_nt <| c_seq <| c_seq <| c_region ?_
  refine s_ hf (r_move hf rfl) fun a hf => ?_
  refine s_ hf (r_fa fa78_2 hf rfl) fun a hf => ?_
  refine s_ hf (r_load_agg ty39 hf rfl (o1.cl.lens lProd_2) (cForm.len _)) fun a hf => ?_
  refine s_ hf (r_fa fa78_2 hf rfl) fun a hf => ?_
  refine s_ hf (r_load_agg ty39 hf rfl (o2.cl.lens lProd_2) (cForm.len _)) fun a hf => ?_
  obtain ⟨x1, hx2, hF⟩ := of_bind hF
  refine st_fn 4 hw hf rfl rfl (by decide) (r_fn en170 hf rfl) (impl_times_ok  hx2) fun a v w ρ hf hw hE hN hΦ => ?_
  obtain rfl := hΦ
  replace o1 := o1.ext hE
  replace o2 := o2.ext hE
  replace o3 := o3.ext hE
  refine s_ hf (r_assign hf rfl) fun a hf => ?_
  refine c_nt <| c_block <| c_seq ?_
  obtain ⟨s4, hT3, hG3⟩ := of_bind hF
  clear hF
  refine c_meet (fun (s4 : Bool) a w => ∃ ρ, Wd w0 ρ w ∧ Fr 73 a [(0, vI a0), (4, .pointer (some ((⟨g1, 0, none⟩ : Addr).add 0))), (5, .pointer (some ((⟨g2, 0, none⟩ : Addr).add 0))), (6, .pointer (some ((⟨g3, 0, none⟩ : Addr).add 0))), (8, vI x1), (16, .bool s4)] ∧ Va ρ w 1 g1 78 (cProd.enc a1) ∧ Va ρ w 2 g2 78 (cProd.enc a2) ∧ Va ρ w 3 g3 78 (cProd.enc zProd)) s4 ?_ ?_
  · have hF := hT3
    refine c_region ?_
    refine s_ hf (r_fa fa78_0 hf rfl) fun a hf => ?_
    refine s_ hf (r_load_agg ty39 hf rfl (o1.cl.lens lProd_0) (cForm.len _)) fun a hf => ?_
    refine s_ hf (r_fa fa78_0 hf rfl) fun a hf => ?_
    refine s_ hf (r_load_agg ty39 hf rfl (o2.cl.lens lProd_0) (cForm.len _)) fun a hf => ?_
    refine s_ hf (r_eq (d := cForm) eq39 ⟨_, rfl⟩ gt39 hf rfl rfl) fun a hf => ?_
    refine s_ hf (r_move hf rfl) fun a hf => ?_
    rcases of_ite hF with ⟨hb5, hF⟩ | ⟨hb5, hF⟩
    rotate_left
    · refine st_no (b := false) hf rfl rfl rfl hb5 rfl (by decide) fun a hf => ?_
      refine st_no (b := false) hf rfl rfl rfl hb5 rfl (by decide) fun a hf => ?_
      refine st_no (b := false) hf rfl rfl rfl hb5 rfl (by decide) fun a hf => ?_
      refine st_no (b := false) hf rfl rfl rfl hb5 rfl (by decide) fun a hf => ?_
      refine st_no (b := false) hf rfl rfl rfl hb5 rfl (by decide) fun a hf => ?_
      refine s_ hf (r_pick (b := false) hf rfl hb5 rfl) fun a hf => ?_
      refine s_ hf (r_assign hf rfl) fun a hf => ?_
      refine c_nil ⟨rfl, ?_⟩
      obtain rfl := Option.some.inj hF
      exact ⟨_, hw, hf.sub ⟨rfl, rfl, rfl, rfl, rfl, rfl, trivial⟩, o1, o2, o3⟩
    refine st_g (b := true) hf rfl rfl rfl hb5 rfl (by decide) (r_fa fa78_1 hf rfl) fun a hf => ?_
    refine st_g (b := true) hf rfl rfl rfl hb5 rfl (by decide) (r_load_agg ty39 hf rfl (o1.cl.lens lProd_1) (cForm.len _)) fun a hf => ?_
    refine st_g (b := true) hf rfl rfl rfl hb5 rfl (by decide) (r_fa fa78_1 hf rfl) fun a hf => ?_
    refine st_g (b := true) hf rfl rfl rfl hb5 rfl (by decide) (r_load_agg ty39 hf rfl (o2.cl.lens lProd_1) (cForm.len _)) fun a hf => ?_
    refine st_g (b := true) hf rfl rfl rfl hb5 rfl (by decide) (r_eq (d := cForm) eq39 ⟨_, rfl⟩ gt39 hf rfl rfl) fun a hf => ?_
    refine s_ hf (r_pick (b := true) hf rfl hb5 rfl) fun a hf => ?_
    refine s_ hf (r_assign hf rfl) fun a hf => ?_
    refine c_nil ⟨rfl, ?_⟩
    obtain rfl := Option.some.inj hF
    exact ⟨_, hw, hf.sub ⟨rfl, rfl, rfl, rfl, rfl, rfl, trivial⟩, o1, o2, o3⟩
  rintro a w ⟨ρ, hw, hf, o1, o2, o3⟩
  have hF := hG3
  refine n_then ?_
  rcases of_ite hF with ⟨hb6, hF⟩ | ⟨hb6, hF⟩
  · refine c_ift hf rfl hb6 <| c_region ?_
    refine s_ hf (r_move hf rfl) fun a hf => ?_
    refine s_ hf (r_fa fa78_2 hf rfl) fun a hf => ?_
    refine s_ hf (r_load_agg ty39 hf rfl (o1.cl.lens lProd_2) (cForm.len _)) fun a hf => ?_
    refine s_ hf (r_fa fa78_2 hf rfl) fun a hf => ?_
    refine s_ hf (r_load_agg ty39 hf rfl (o2.cl.lens lProd_2) (cForm.len _)) fun a hf => ?_
    obtain ⟨x7, hx8, hF⟩ := of_bind hF
    refine st_fn 5 hw hf rfl rfl (by decide) (r_fn en77 hf rfl) (impl_sum_ok  hx8) fun a v w ρ hf hw hE hN hΦ => ?_
    obtain rfl := hΦ
    replace o1 := o1.ext hE
    replace o2 := o2.ext hE
    replace o3 := o3.ext hE
    refine s_ hf (r_fa fa78_2 hf rfl) fun a hf => ?_
    refine sk_ hf (r_store_l (b := x7) hw o1 (by decide) lProd_2 (by simp only [Nat.zero_add] <;> rfl) ty39 hf rfl rfl rfl) fun a w hf hΦ => ?_
    obtain ⟨hw, hA, o1⟩ := hΦ
    replace o2 := o2.adv hA (by decide)
    replace o3 := o3.adv hA (by decide)
    refine c_nil <| n_block <| n_then <| c_seq <| c_region ?_
    refine s_ hf (r_load_agg ty78 hf rfl o1.cl (cProd.len _)) fun a hf => ?_
    refine sk_ hf (r_store_w (cs' := cProd.enc (a1.1, a1.2.1, x7)) hw o3 (by decide) ty78 (cProd.len _) (cProd.len _) (cProd.one _) hf rfl rfl rfl) fun a w hf hΦ => ?_
    obtain ⟨hw, hA, o3⟩ := hΦ
    replace o1 := o1.adv hA (by decide)
    replace o2 := o2.adv hA (by decide)
    refine s_ hf (r_assign hf rfl) fun a hf => ?_
    refine c_nt <| c_retc ?_
    obtain rfl := Option.some.inj hF
    refine c_ret hf (res_ct Try.results150 ty78 hf rfl o3.cl (cProd.len _) rfl) ?_
    exact ⟨_, rfl, hw.below, rfl⟩
  refine c_iff hf rfl hb6 <| c_seq ?_
  obtain ⟨s10, hT9, hG9⟩ := of_bind hF
  clear hF
  refine c_meet (fun (s10 : Bool) a w => ∃ ρ, Wd w0 ρ w ∧ Fr 73 a [(0, vI a0), (4, .pointer (some ((⟨g1, 0, none⟩ : Addr).add 0))), (5, .pointer (some ((⟨g2, 0, none⟩ : Addr).add 0))), (6, .pointer (some ((⟨g3, 0, none⟩ : Addr).add 0))), (8, vI x1), (36, .bool s10)] ∧ Va ρ w 1 g1 78 (cProd.enc a1) ∧ Va ρ w 2 g2 78 (cProd.enc a2) ∧ Va ρ w 3 g3 78 (cProd.enc zProd)) s10 ?_ ?_
  · have hF := hT9
    refine c_region ?_
    refine s_ hf (r_fa fa78_0 hf rfl) fun a hf => ?_
    refine s_ hf (r_load_agg ty39 hf rfl (o1.cl.lens lProd_0) (cForm.len _)) fun a hf => ?_
    refine s_ hf (r_fa fa78_0 hf rfl) fun a hf => ?_
    refine s_ hf (r_load_agg ty39 hf rfl (o2.cl.lens lProd_0) (cForm.len _)) fun a hf => ?_
    refine s_ hf (r_eq (d := cForm) eq39 ⟨_, rfl⟩ gt39 hf rfl rfl) fun a hf => ?_
    refine s_ hf (r_move hf rfl) fun a hf => ?_
    rcases of_ite hF with ⟨hb11, hF⟩ | ⟨hb11, hF⟩
    rotate_left
    · refine st_no (b := false) hf rfl rfl rfl hb11 rfl (by decide) fun a hf => ?_
      refine st_no (b := false) hf rfl rfl rfl hb11 rfl (by decide) fun a hf => ?_
      refine s_ hf (r_pick (b := false) hf rfl hb11 rfl) fun a hf => ?_
      refine s_ hf (r_assign hf rfl) fun a hf => ?_
      refine c_nil ⟨rfl, ?_⟩
      obtain rfl := Option.some.inj hF
      exact ⟨_, hw, hf.sub ⟨rfl, rfl, rfl, rfl, rfl, rfl, trivial⟩, o1, o2, o3⟩
    refine st_g (b := true) hf rfl rfl rfl hb11 rfl (by decide) (r_move hf rfl) fun a hf => ?_
    refine st_g (b := true) hf rfl rfl rfl hb11 rfl (by decide) (r_gtr hf rfl rfl) fun a hf => ?_
    refine s_ hf (r_pick (b := true) hf rfl hb11 rfl) fun a hf => ?_
    refine s_ hf (r_assign hf rfl) fun a hf => ?_
    refine c_nil ⟨rfl, ?_⟩
    obtain rfl := Option.some.inj hF
    exact ⟨_, hw, hf.sub ⟨rfl, rfl, rfl, rfl, rfl, rfl, trivial⟩, o1, o2, o3⟩
  rintro a w ⟨ρ, hw, hf, o1, o2, o3⟩
  have hF := hG9
  refine n_then ?_
  rcases of_ite hF with ⟨hb12, hF⟩ | ⟨hb12, hF⟩
  · refine c_ift hf rfl hb12 <| c_region ?_
    refine s_ hf (r_move hf rfl) fun a hf => ?_
    refine s_ hf (r_fa fa78_1 hf rfl) fun a hf => ?_
    refine s_ hf (r_load_agg ty39 hf rfl (o1.cl.lens lProd_1) (cForm.len _)) fun a hf => ?_
    refine s_ hf (r_fa fa78_1 hf rfl) fun a hf => ?_
    refine s_ hf (r_load_agg ty39 hf rfl (o2.cl.lens lProd_1) (cForm.len _)) fun a hf => ?_
    refine s_ hf (r_move hf rfl) fun a hf => ?_
    obtain ⟨x13, hx14, hF⟩ := of_bind hF
    refine st_fn 6 hw hf rfl rfl (by decide) (r_fn en77 hf rfl) (impl_sum_ok  hx14) fun a v w ρ hf hw hE hN hΦ => ?_
    obtain rfl := hΦ
    replace o1 := o1.ext hE
    replace o2 := o2.ext hE
    replace o3 := o3.ext hE
    refine s_ hf (r_fa fa78_1 hf rfl) fun a hf => ?_
    refine sk_ hf (r_store_l (b := x13) hw o1 (by decide) lProd_1 (by simp only [Nat.zero_add] <;> rfl) ty39 hf rfl rfl rfl) fun a w hf hΦ => ?_
    obtain ⟨hw, hA, o1⟩ := hΦ
    replace o2 := o2.adv hA (by decide)
    replace o3 := o3.adv hA (by decide)
    refine c_nil <| n_block <| n_then <| c_seq <| c_region ?_
    refine s_ hf (r_load_agg ty78 hf rfl o1.cl (cProd.len _)) fun a hf => ?_
    refine sk_ hf (r_store_w (cs' := cProd.enc (a1.1, x13, a1.2.2)) hw o3 (by decide) ty78 (cProd.len _) (cProd.len _) (cProd.one _) hf rfl rfl rfl) fun a w hf hΦ => ?_
    obtain ⟨hw, hA, o3⟩ := hΦ
    replace o1 := o1.adv hA (by decide)
    replace o2 := o2.adv hA (by decide)
    refine s_ hf (r_assign hf rfl) fun a hf => ?_
    refine c_nt <| c_retc ?_
    obtain rfl := Option.some.inj hF
    refine c_ret hf (res_ct Try.results150 ty78 hf rfl o3.cl (cProd.len _) rfl) ?_
    exact ⟨_, rfl, hw.below, rfl⟩
  refine c_iff hf rfl hb12 <| c_seq ?_
  obtain ⟨s16, hT15, hG15⟩ := of_bind hF
  clear hF
  refine c_meet (fun (s16 : Bool) a w => ∃ ρ, Wd w0 ρ w ∧ Fr 73 a [(0, vI a0), (4, .pointer (some ((⟨g1, 0, none⟩ : Addr).add 0))), (5, .pointer (some ((⟨g2, 0, none⟩ : Addr).add 0))), (6, .pointer (some ((⟨g3, 0, none⟩ : Addr).add 0))), (8, vI x1), (54, .bool s16)] ∧ Va ρ w 1 g1 78 (cProd.enc a1) ∧ Va ρ w 2 g2 78 (cProd.enc a2) ∧ Va ρ w 3 g3 78 (cProd.enc zProd)) s16 ?_ ?_
  · have hF := hT15
    refine c_region ?_
    refine s_ hf (r_fa fa78_1 hf rfl) fun a hf => ?_
    refine s_ hf (r_load_agg ty39 hf rfl (o1.cl.lens lProd_1) (cForm.len _)) fun a hf => ?_
    refine s_ hf (r_fa fa78_1 hf rfl) fun a hf => ?_
    refine s_ hf (r_load_agg ty39 hf rfl (o2.cl.lens lProd_1) (cForm.len _)) fun a hf => ?_
    refine s_ hf (r_eq (d := cForm) eq39 ⟨_, rfl⟩ gt39 hf rfl rfl) fun a hf => ?_
    refine s_ hf (r_move hf rfl) fun a hf => ?_
    rcases of_ite hF with ⟨hb17, hF⟩ | ⟨hb17, hF⟩
    rotate_left
    · refine st_no (b := false) hf rfl rfl rfl hb17 rfl (by decide) fun a hf => ?_
      refine st_no (b := false) hf rfl rfl rfl hb17 rfl (by decide) fun a hf => ?_
      refine s_ hf (r_pick (b := false) hf rfl hb17 rfl) fun a hf => ?_
      refine s_ hf (r_assign hf rfl) fun a hf => ?_
      refine c_nil ⟨rfl, ?_⟩
      obtain rfl := Option.some.inj hF
      exact ⟨_, hw, hf.sub ⟨rfl, rfl, rfl, rfl, rfl, rfl, trivial⟩, o1, o2, o3⟩
    refine st_g (b := true) hf rfl rfl rfl hb17 rfl (by decide) (r_move hf rfl) fun a hf => ?_
    refine st_g (b := true) hf rfl rfl rfl hb17 rfl (by decide) (r_gtr hf rfl rfl) fun a hf => ?_
    refine s_ hf (r_pick (b := true) hf rfl hb17 rfl) fun a hf => ?_
    refine s_ hf (r_assign hf rfl) fun a hf => ?_
    refine c_nil ⟨rfl, ?_⟩
    obtain rfl := Option.some.inj hF
    exact ⟨_, hw, hf.sub ⟨rfl, rfl, rfl, rfl, rfl, rfl, trivial⟩, o1, o2, o3⟩
  rintro a w ⟨ρ, hw, hf, o1, o2, o3⟩
  have hF := hG15
  refine n_then ?_
  rcases of_ite hF with ⟨hb18, hF⟩ | ⟨hb18, hF⟩
  rotate_left
  · refine c_iff hf rfl hb18 <| c_seq <| c_region ?_
    refine s_ hf (r_build_struct (pl := [(0, 9), (9, 9), (18, 9)]) (vs := []) (res := (cProd.enc zProd).toArray) Try.underlying78 (by kernel_rfl) ze78 hf rfl rfl rfl) fun a hf => ?_
    refine sk_ hf (r_store_w (cs' := cProd.enc zProd) hw o3 (by decide) ty78 (cProd.len _) (cProd.len _) (cProd.one _) hf rfl rfl rfl) fun a w hf hΦ => ?_
    obtain ⟨hw, hA, o3⟩ := hΦ
    replace o1 := o1.adv hA (by decide)
    replace o2 := o2.adv hA (by decide)
    refine s_ hf (r_assign hf rfl) fun a hf => ?_
    refine c_nt <| c_retc ?_
    obtain rfl := Option.some.inj hF
    refine r_block <| r_then <| c_ret hf (res_ct Try.results150 ty78 hf rfl o3.cl (cProd.len _) rfl) ?_
    exact ⟨_, rfl, hw.below, rfl⟩
  refine c_ift hf rfl hb18 <| c_region ?_
  refine s_ hf (r_move hf rfl) fun a hf => ?_
  refine s_ hf (r_fa fa78_0 hf rfl) fun a hf => ?_
  refine s_ hf (r_load_agg ty39 hf rfl (o1.cl.lens lProd_0) (cForm.len _)) fun a hf => ?_
  refine s_ hf (r_fa fa78_0 hf rfl) fun a hf => ?_
  refine s_ hf (r_load_agg ty39 hf rfl (o2.cl.lens lProd_0) (cForm.len _)) fun a hf => ?_
  refine s_ hf (r_move hf rfl) fun a hf => ?_
  obtain ⟨x19, hx20, hF⟩ := of_bind hF
  refine st_fn 7 hw hf rfl rfl (by decide) (r_fn en77 hf rfl) (impl_sum_ok  hx20) fun a v w ρ hf hw hE hN hΦ => ?_
  obtain rfl := hΦ
  replace o1 := o1.ext hE
  replace o2 := o2.ext hE
  replace o3 := o3.ext hE
  refine s_ hf (r_fa fa78_0 hf rfl) fun a hf => ?_
  refine sk_ hf (r_store_l (b := x19) hw o1 (by decide) lProd_0 (by simp only [Nat.zero_add] <;> rfl) ty39 hf rfl rfl rfl) fun a w hf hΦ => ?_
  obtain ⟨hw, hA, o1⟩ := hΦ
  replace o2 := o2.adv hA (by decide)
  replace o3 := o3.adv hA (by decide)
  refine c_nil <| n_block <| n_then <| c_seq <| c_region ?_
  refine s_ hf (r_load_agg ty78 hf rfl o1.cl (cProd.len _)) fun a hf => ?_
  refine sk_ hf (r_store_w (cs' := cProd.enc (x19, a1.2.1, a1.2.2)) hw o3 (by decide) ty78 (cProd.len _) (cProd.len _) (cProd.one _) hf rfl rfl rfl) fun a w hf hΦ => ?_
  obtain ⟨hw, hA, o3⟩ := hΦ
  replace o1 := o1.adv hA (by decide)
  replace o2 := o2.adv hA (by decide)
  refine s_ hf (r_assign hf rfl) fun a hf => ?_
  refine c_nt <| c_retc ?_
  obtain rfl := Option.some.inj hF
  refine c_ret hf (res_ct Try.results150 ty78 hf rfl o3.cl (cProd.len _) rfl) ?_
  exact ⟨_, rfl, hw.below, rfl⟩
/-! f179 -/
noncomputable def spec_l03Times (a0 : Int) (a1 : Form) (a2 : Form) : Option Int :=
  (spec_l03Lead a2).bind fun x1 => (spec_l03Lead a1).bind fun x3 => (spec_l01Inverse a0 x3).bind fun x5 => if a0 ≠ 0 then ((spec_l01Scale a0 a1 ((w64 (x1 * x5)).tmod a0)).bind fun x8 => if (decide (x8 ≠ a2)) = true then (some (0)) else (some ((w64 (x1 * x5)).tmod a0))) else none
theorem spec_l03Times_ok {w0 : World} {a0 : Int} {a1 : Form} {a2 : Form}   {r : Int} (hF : spec_l03Times a0 a1 a2 = some r) :
    Calls Try.prog 179 [vI a0, .agg (cForm.enc a1).toArray, .agg (cForm.enc a2).toArray].toArray w0 fun e w => ∃ v, e = .returned v ∧ Below w0.heap.size w0 w ∧ .int .i64 r = v := by
  refine calls_of (k := 24) Try.func179 rfl rfl (Nat.le_of_ble_eq_true rfl) fun a hf => ?_
  replace hf : Fr 24 a [(0, vI a0), (1, .agg (cForm.enc a1).toArray), (2, .agg (cForm.enc a2).toArray)] := hf
  refine c_start fun w ρ hw => ?_
  unfold spec_l03Times at hF
  refine c_seq <| c_region ?_
  refine sx_ hf (r_box (cs := cForm.enc a1) 1 hw hf rfl rfl) fun a v w hf hΦ => ?_
  obtain ⟨g1, ρ, rfl, hw, hE, o1⟩ := hΦ
  refine sx_ hf (r_box (cs := cForm.enc a2) 2 hw hf rfl rfl) fun a v w hf hΦ => ?_
  obtain ⟨g2, ρ, rfl, hw, hE, o2⟩ := hΦ
  replace o1 := o1.ext hE
  refine s_ hf (r_assign hf rfl) fun a hf => ?_
  refine c_nt <| c_seq ?_
  obtain ⟨x1, hx2, hF⟩ := of_bind hF
  obtain ⟨x3, hx4, hF⟩ := of_bind hF
  obtain ⟨x5, hx6, hF⟩ := of_bind hF
  replace hf : Fr 24 a [(0, vI a0), (4, .pointer (some ((⟨g1, 0, none⟩ : Addr).add 0))), (5, .pointer (some ((⟨g2, 0, none⟩ : Addr).add 0)))] := hf.sub ⟨rfl, rfl, rfl, trivial⟩
  refine c_drawL (h := 8) mixed (by kernel_rfl) (by kernel_rfl) (fun ρ w => Va ρ w 1 g1 39 (cForm.enc a1) ∧ Va ρ w 2 g2 39 (cForm.enc a2)) ?_ [fun ρ w v => .agg (cForm.enc a2).toArray = v, fun ρ w v => vI x1 = v, fun ρ w v => vI a0 = v, fun ρ w v => .agg (cForm.enc a1).toArray = v, fun ρ w v => vI x3 = v, fun ρ w v => vI x5 = v, fun ρ w v => vI (w64 (x1 * x5)) = v, fun ρ w v => vI a0 = v] ?_ hw ⟨o1, o2⟩ hf ?_ ?_
  · intro ρ w ρ' w' hE hG
    obtain ⟨o1, o2⟩ := hG
    exact ⟨o1.ext hE, o2.ext hE⟩
  · exact LastsL.cons (fun _ _ _ _ _ _ h => h) <| LastsL.cons (fun _ _ _ _ _ _ h => h) <| LastsL.cons (fun _ _ _ _ _ _ h => h) <| LastsL.cons (fun _ _ _ _ _ _ h => h) <| LastsL.cons (fun _ _ _ _ _ _ h => h) <| LastsL.cons (fun _ _ _ _ _ _ h => h) <| LastsL.cons (fun _ _ _ _ _ _ h => h) <| LastsL.cons (fun _ _ _ _ _ _ h => h) <| LastsL.nil
  · refine StepsB.cons ?_ <| StepsB.cons ?_ <| StepsB.cons ?_ <| StepsB.cons ?_ <| StepsB.cons ?_ <| StepsB.cons ?_ <| StepsB.cons ?_ <| StepsB.cons ?_ <| StepsB.nil
    · intro ρ w a hw hG hf hd K hK
      obtain ⟨o1, o2⟩ := hG
      exact dv_ hK hw (wn rfl) (r_load_agg ty39 hf rfl o2.cl (cForm.len _)) rfl
    · intro ρ w a hw hG hf hd K hK
      obtain ⟨o1, o2⟩ := hG
      obtain ⟨_, hf, rfl⟩ := got (hd 0 (by kernel_rfl)) hf
      refine dc_ hK hw (wn rfl) (r_fn en177 hf rfl) (spec_l03Lead_ok  hx2) fun v w' hΦ => ?_
      obtain ⟨hb, hΦ⟩ := hΦ
      obtain rfl := hΦ
      have hE := Ext.new (ρ := ρ) 3 hb
      exact ⟨_, hw.new 3 hb, hE, rfl⟩
    · intro ρ w a hw hG hf hd K hK
      obtain ⟨o1, o2⟩ := hG
      exact dv_ hK hw (wn rfl) (r_move hf rfl) rfl
    · intro ρ w a hw hG hf hd K hK
      obtain ⟨o1, o2⟩ := hG
      exact dv_ hK hw (wn rfl) (r_load_agg ty39 hf rfl o1.cl (cForm.len _)) rfl
    · intro ρ w a hw hG hf hd K hK
      obtain ⟨o1, o2⟩ := hG
      obtain ⟨_, hf, rfl⟩ := got (hd 3 (by kernel_rfl)) hf
      refine dc_ hK hw (wn rfl) (r_fn en177 hf rfl) (spec_l03Lead_ok  hx4) fun v w' hΦ => ?_
      obtain ⟨hb, hΦ⟩ := hΦ
      obtain rfl := hΦ
      have hE := Ext.new (ρ := ρ) 4 hb
      exact ⟨_, hw.new 4 hb, hE, rfl⟩
    · intro ρ w a hw hG hf hd K hK
      obtain ⟨o1, o2⟩ := hG
      obtain ⟨_, hf, rfl⟩ := got (hd 2 (by kernel_rfl)) hf
      obtain ⟨_, hf, rfl⟩ := got (hd 4 (by kernel_rfl)) hf
      refine dc_ hK hw (wn rfl) (r_fn en135 hf rfl) (spec_l01Inverse_ok  hx6) fun v w' hΦ => ?_
      obtain ⟨hb, hΦ⟩ := hΦ
      obtain rfl := hΦ
      have hE := Ext.new (ρ := ρ) 5 hb
      exact ⟨_, hw.new 5 hb, hE, rfl⟩
    · intro ρ w a hw hG hf hd K hK
      obtain ⟨o1, o2⟩ := hG
      obtain ⟨_, hf, rfl⟩ := got (hd 1 (by kernel_rfl)) hf
      obtain ⟨_, hf, rfl⟩ := got (hd 5 (by kernel_rfl)) hf
      exact dv_ hK hw (wn rfl) (r_mul hf rfl rfl) rfl
    · intro ρ w a hw hG hf hd K hK
      obtain ⟨o1, o2⟩ := hG
      exact dv_ hK hw (wn rfl) (r_move hf rfl) rfl
  intro ρ w a hw hG hf hd
  obtain ⟨o1, o2⟩ := hG
  obtain ⟨_, hf, rfl⟩ := got (hd 6 (by decide)) hf
  obtain ⟨_, hf, rfl⟩ := got (hd 7 (by decide)) hf
  obtain ⟨hc7, hF⟩ := of_guard hF
  refine s_ hf (r_rem hf rfl rfl hc7) fun a hf => ?_
  refine s_ hf (r_assign hf rfl) fun a hf => ?_
  refine c_nt <| c_seq <| c_seq ?_
  obtain ⟨x8, hx9, hF⟩ := of_bind hF
  replace hf : Fr 24 a [(0, vI a0), (4, .pointer (some ((⟨g1, 0, none⟩ : Addr).add 0))), (5, .pointer (some ((⟨g2, 0, none⟩ : Addr).add 0))), (7, vI ((w64 (x1 * x5)).tmod a0))] := hf.sub ⟨rfl, rfl, rfl, rfl, trivial⟩
  refine c_drawL (h := 5) mixed (by kernel_rfl) (by kernel_rfl) (fun ρ w => Va ρ w 1 g1 39 (cForm.enc a1) ∧ Va ρ w 2 g2 39 (cForm.enc a2)) ?_ [fun ρ w v => vI a0 = v, fun ρ w v => .agg (cForm.enc a1).toArray = v, fun ρ w v => vI ((w64 (x1 * x5)).tmod a0) = v, fun ρ w v => .agg (cForm.enc x8).toArray = v, fun ρ w v => .agg (cForm.enc a2).toArray = v] ?_ hw ⟨o1, o2⟩ hf ?_ ?_
  · intro ρ w ρ' w' hE hG
    obtain ⟨o1, o2⟩ := hG
    exact ⟨o1.ext hE, o2.ext hE⟩
  · exact LastsL.cons (fun _ _ _ _ _ _ h => h) <| LastsL.cons (fun _ _ _ _ _ _ h => h) <| LastsL.cons (fun _ _ _ _ _ _ h => h) <| LastsL.cons (fun _ _ _ _ _ _ h => h) <| LastsL.cons (fun _ _ _ _ _ _ h => h) <| LastsL.nil
  · refine StepsB.cons ?_ <| StepsB.cons ?_ <| StepsB.cons ?_ <| StepsB.cons ?_ <| StepsB.cons ?_ <| StepsB.nil
    · intro ρ w a hw hG hf hd K hK
      obtain ⟨o1, o2⟩ := hG
      exact dv_ hK hw (wn rfl) (r_move hf rfl) rfl
    · intro ρ w a hw hG hf hd K hK
      obtain ⟨o1, o2⟩ := hG
      exact dv_ hK hw (wn rfl) (r_load_agg ty39 hf rfl o1.cl (cForm.len _)) rfl
    · intro ρ w a hw hG hf hd K hK
      obtain ⟨o1, o2⟩ := hG
      exact dv_ hK hw (wn rfl) (r_move hf rfl) rfl
    · intro ρ w a hw hG hf hd K hK
      obtain ⟨o1, o2⟩ := hG
      obtain ⟨_, hf, rfl⟩ := got (hd 0 (by kernel_rfl)) hf
      obtain ⟨_, hf, rfl⟩ := got (hd 1 (by kernel_rfl)) hf
      obtain ⟨_, hf, rfl⟩ := got (hd 2 (by kernel_rfl)) hf
      refine dc_ hK hw (wn rfl) (r_fn en178 hf rfl) (spec_l01Scale_ok  hx9) fun v w' hΦ => ?_
      obtain ⟨hb, hΦ⟩ := hΦ
      obtain rfl := hΦ
      have hE := Ext.new (ρ := ρ) 6 hb
      exact ⟨_, hw.new 6 hb, hE, rfl⟩
    · intro ρ w a hw hG hf hd K hK
      obtain ⟨o1, o2⟩ := hG
      exact dv_ hK hw (wn rfl) (r_load_agg ty39 hf rfl o2.cl (cForm.len _)) rfl
  intro ρ w a hw hG hf hd
  obtain ⟨o1, o2⟩ := hG
  obtain ⟨_, hf, rfl⟩ := got (hd 3 (by decide)) hf
  obtain ⟨_, hf, rfl⟩ := got (hd 4 (by decide)) hf
  refine s_ hf (r_ne (d := cForm) eq39 ⟨_, rfl⟩ gt39 hf rfl rfl) fun a hf => ?_
  refine c_nt ?_
  rcases of_ite hF with ⟨hb10, hF⟩ | ⟨hb10, hF⟩
  · refine c_ift hf rfl hb10 <| c_seq <| c_region ?_
    refine s_ hf (r_assign hf rfl) fun a hf => ?_
    refine c_nt <| c_retc ?_
    obtain rfl := Option.some.inj hF
    refine r_then <| c_ret hf (res_tmp Try.results179 hf rfl) ?_
    exact ⟨_, rfl, hw.below, rfl⟩
  refine c_iff hf rfl hb10 <| c_skip <| n_then <| c_seq <| c_region ?_
  refine s_ hf (r_move hf rfl) fun a hf => ?_
  refine s_ hf (r_assign hf rfl) fun a hf => ?_
  refine c_nt <| c_retc ?_
  obtain rfl := Option.some.inj hF
  refine c_ret hf (res_tmp Try.results179 hf rfl) ?_
  exact ⟨_, rfl, hw.below, rfl⟩
/-! f167 -/
noncomputable def spec_l03Join (a0 : Int) (a1 : Prod) (a2 : Prod) : Option (Prod × Bool) :=
  (spec_l03Times a0 a1.2.2 a2.2.2).bind fun x1 => (if (decide (a1.1 = a2.1)) = true then (some (decide (a1.2.1 = a2.2.1))) else (some false)).bind fun (s4 : Bool) => if s4 = true then ((spec_l01Add a0 a1.2.2 a2.2.2 1).bind fun x7 => some (((a1.1, a1.2.1, x7), true))) else ((if (decide (a1.1 = a2.1)) = true then (some (decide (x1 ≠ 0))) else (some false)).bind fun (s10 : Bool) => if s10 = true then ((spec_l01Add a0 a1.2.1 a2.2.1 x1).bind fun x13 => some (((a1.1, x13, a1.2.2), true))) else ((if (decide (a1.2.1 = a2.2.1)) = true then (some (decide (x1 ≠ 0))) else (some false)).bind fun (s16 : Bool) => if s16 = true then ((spec_l01Add a0 a1.1 a2.1 x1).bind fun x19 => some (((x19, a1.2.1, a1.2.2), true))) else (some ((zProd, false)))))
theorem spec_l03Join_ok {w0 : World} {a0 : Int} {a1 : Prod} {a2 : Prod}   {r : Prod × Bool} (hF : spec_l03Join a0 a1 a2 = some r) :
    Calls Try.prog 167 [vI a0, .agg (cProd.enc a1).toArray, .agg (cProd.enc a2).toArray].toArray w0 fun e w => ∃ v, e = .returned v ∧ Below w0.heap.size w0 w ∧ .tuple #[.agg (cProd.enc r.1).toArray, .bool r.2] = v := by
  refine calls_of (k := 73) Try.func167 rfl rfl (Nat.le_of_ble_eq_true rfl) fun a hf => ?_
  replace hf : Fr 73 a [(0, vI a0), (1, .agg (cProd.enc a1).toArray), (2, .agg (cProd.enc a2).toArray)] := hf
  refine c_start fun w ρ hw => ?_
  unfold spec_l03Join at hF
  refine c_seq <| c_region ?_
  refine sx_ hf (r_box (cs := cProd.enc a1) 1 hw hf rfl rfl) fun a v w hf hΦ => ?_
  obtain ⟨g1, ρ, rfl, hw, hE, o1⟩ := hΦ
  refine sx_ hf (r_box (cs := cProd.enc a2) 2 hw hf rfl rfl) fun a v w hf hΦ => ?_
  obtain ⟨g2, ρ, rfl, hw, hE, o2⟩ := hΦ
  replace o1 := o1.ext hE
  refine sx_ hf (r_alloc (cs := cProd.enc zProd) 3 ze78 rfl hw) fun a v w hf hΦ => ?_
  obtain ⟨g3, ρ, rfl, hw, hE, o3⟩ := hΦ
  replace o1 := o1.ext hE
  replace o2 := o2.ext hE
  refine s_ hf (r_assign hf rfl) fun a hf => ?_
  refine c_nt <| c_seq <| c_region ?_
  refine s_ hf (r_move hf rfl) fun a hf => ?_
  refine s_ hf (r_fa fa78_2 hf rfl) fun a hf => ?_
  refine s_ hf (r_load_agg ty39 hf rfl (o1.cl.lens lProd_2) (cForm.len _)) fun a hf => ?_
  refine s_ hf (r_fa fa78_2 hf rfl) fun a hf => ?_
  refine s_ hf (r_load_agg ty39 hf rfl (o2.cl.lens lProd_2) (cForm.len _)) fun a hf => ?_
  obtain ⟨x1, hx2, hF⟩ := of_bind hF
  refine st_fn 4 hw hf rfl rfl (by decide) (r_fn en179 hf rfl) (spec_l03Times_ok  hx2) fun a v w ρ hf hw hE hN hΦ => ?_
  obtain rfl := hΦ
  replace o1 := o1.ext hE
  replace o2 := o2.ext hE
  replace o3 := o3.ext hE
  refine s_ hf (r_assign hf rfl) fun a hf => ?_
  refine c_nt <| c_seq <| c_block <| c_seq ?_
  obtain ⟨s4, hT3, hG3⟩ := of_bind hF
  clear hF
  refine c_meet (fun (s4 : Bool) a w => ∃ ρ, Wd w0 ρ w ∧ Fr 73 a [(0, vI a0), (4, .pointer (some ((⟨g1, 0, none⟩ : Addr).add 0))), (5, .pointer (some ((⟨g2, 0, none⟩ : Addr).add 0))), (6, .pointer (some ((⟨g3, 0, none⟩ : Addr).add 0))), (8, vI x1), (16, .bool s4)] ∧ Va ρ w 1 g1 78 (cProd.enc a1) ∧ Va ρ w 2 g2 78 (cProd.enc a2) ∧ Va ρ w 3 g3 78 (cProd.enc zProd)) s4 ?_ ?_
  · have hF := hT3
    refine c_region ?_
    refine s_ hf (r_fa fa78_0 hf rfl) fun a hf => ?_
    refine s_ hf (r_load_agg ty39 hf rfl (o1.cl.lens lProd_0) (cForm.len _)) fun a hf => ?_
    refine s_ hf (r_fa fa78_0 hf rfl) fun a hf => ?_
    refine s_ hf (r_load_agg ty39 hf rfl (o2.cl.lens lProd_0) (cForm.len _)) fun a hf => ?_
    refine s_ hf (r_eq (d := cForm) eq39 ⟨_, rfl⟩ gt39 hf rfl rfl) fun a hf => ?_
    refine s_ hf (r_move hf rfl) fun a hf => ?_
    rcases of_ite hF with ⟨hb5, hF⟩ | ⟨hb5, hF⟩
    rotate_left
    · refine st_no (b := false) hf rfl rfl rfl hb5 rfl (by decide) fun a hf => ?_
      refine st_no (b := false) hf rfl rfl rfl hb5 rfl (by decide) fun a hf => ?_
      refine st_no (b := false) hf rfl rfl rfl hb5 rfl (by decide) fun a hf => ?_
      refine st_no (b := false) hf rfl rfl rfl hb5 rfl (by decide) fun a hf => ?_
      refine st_no (b := false) hf rfl rfl rfl hb5 rfl (by decide) fun a hf => ?_
      refine s_ hf (r_pick (b := false) hf rfl hb5 rfl) fun a hf => ?_
      refine s_ hf (r_assign hf rfl) fun a hf => ?_
      refine c_nil ⟨rfl, ?_⟩
      obtain rfl := Option.some.inj hF
      exact ⟨_, hw, hf.sub ⟨rfl, rfl, rfl, rfl, rfl, rfl, trivial⟩, o1, o2, o3⟩
    refine st_g (b := true) hf rfl rfl rfl hb5 rfl (by decide) (r_fa fa78_1 hf rfl) fun a hf => ?_
    refine st_g (b := true) hf rfl rfl rfl hb5 rfl (by decide) (r_load_agg ty39 hf rfl (o1.cl.lens lProd_1) (cForm.len _)) fun a hf => ?_
    refine st_g (b := true) hf rfl rfl rfl hb5 rfl (by decide) (r_fa fa78_1 hf rfl) fun a hf => ?_
    refine st_g (b := true) hf rfl rfl rfl hb5 rfl (by decide) (r_load_agg ty39 hf rfl (o2.cl.lens lProd_1) (cForm.len _)) fun a hf => ?_
    refine st_g (b := true) hf rfl rfl rfl hb5 rfl (by decide) (r_eq (d := cForm) eq39 ⟨_, rfl⟩ gt39 hf rfl rfl) fun a hf => ?_
    refine s_ hf (r_pick (b := true) hf rfl hb5 rfl) fun a hf => ?_
    refine s_ hf (r_assign hf rfl) fun a hf => ?_
    refine c_nil ⟨rfl, ?_⟩
    obtain rfl := Option.some.inj hF
    exact ⟨_, hw, hf.sub ⟨rfl, rfl, rfl, rfl, rfl, rfl, trivial⟩, o1, o2, o3⟩
  rintro a w ⟨ρ, hw, hf, o1, o2, o3⟩
  have hF := hG3
  refine n_then ?_
  rcases of_ite hF with ⟨hb6, hF⟩ | ⟨hb6, hF⟩
  · refine c_ift hf rfl hb6 <| c_region ?_
    refine s_ hf (r_move hf rfl) fun a hf => ?_
    refine s_ hf (r_fa fa78_2 hf rfl) fun a hf => ?_
    refine s_ hf (r_load_agg ty39 hf rfl (o1.cl.lens lProd_2) (cForm.len _)) fun a hf => ?_
    refine s_ hf (r_fa fa78_2 hf rfl) fun a hf => ?_
    refine s_ hf (r_load_agg ty39 hf rfl (o2.cl.lens lProd_2) (cForm.len _)) fun a hf => ?_
    obtain ⟨x7, hx8, hF⟩ := of_bind hF
    refine st_fn 5 hw hf rfl rfl (by decide) (r_fn en72 hf rfl) (spec_l01Add_ok  hx8) fun a v w ρ hf hw hE hN hΦ => ?_
    obtain rfl := hΦ
    replace o1 := o1.ext hE
    replace o2 := o2.ext hE
    replace o3 := o3.ext hE
    refine s_ hf (r_fa fa78_2 hf rfl) fun a hf => ?_
    refine sk_ hf (r_store_l (b := x7) hw o1 (by decide) lProd_2 (by simp only [Nat.zero_add] <;> rfl) ty39 hf rfl rfl rfl) fun a w hf hΦ => ?_
    obtain ⟨hw, hA, o1⟩ := hΦ
    replace o2 := o2.adv hA (by decide)
    replace o3 := o3.adv hA (by decide)
    refine c_nil <| n_block <| n_then <| c_seq <| c_region ?_
    refine s_ hf (r_load_agg ty78 hf rfl o1.cl (cProd.len _)) fun a hf => ?_
    refine sk_ hf (r_store_w (cs' := cProd.enc (a1.1, a1.2.1, x7)) hw o3 (by decide) ty78 (cProd.len _) (cProd.len _) (cProd.one _) hf rfl rfl rfl) fun a w hf hΦ => ?_
    obtain ⟨hw, hA, o3⟩ := hΦ
    replace o1 := o1.adv hA (by decide)
    replace o2 := o2.adv hA (by decide)
    refine s_ hf (r_assign hf rfl) fun a hf => ?_
    refine c_nt <| c_retc ?_
    obtain rfl := Option.some.inj hF
    refine c_ret hf (res_ct Try.results167 ty78 hf rfl o3.cl (cProd.len _) rfl) ?_
    exact ⟨_, rfl, hw.below, rfl⟩
  refine c_iff hf rfl hb6 <| c_seq ?_
  obtain ⟨s10, hT9, hG9⟩ := of_bind hF
  clear hF
  refine c_meet (fun (s10 : Bool) a w => ∃ ρ, Wd w0 ρ w ∧ Fr 73 a [(0, vI a0), (4, .pointer (some ((⟨g1, 0, none⟩ : Addr).add 0))), (5, .pointer (some ((⟨g2, 0, none⟩ : Addr).add 0))), (6, .pointer (some ((⟨g3, 0, none⟩ : Addr).add 0))), (8, vI x1), (36, .bool s10)] ∧ Va ρ w 1 g1 78 (cProd.enc a1) ∧ Va ρ w 2 g2 78 (cProd.enc a2) ∧ Va ρ w 3 g3 78 (cProd.enc zProd)) s10 ?_ ?_
  · have hF := hT9
    refine c_region ?_
    refine s_ hf (r_fa fa78_0 hf rfl) fun a hf => ?_
    refine s_ hf (r_load_agg ty39 hf rfl (o1.cl.lens lProd_0) (cForm.len _)) fun a hf => ?_
    refine s_ hf (r_fa fa78_0 hf rfl) fun a hf => ?_
    refine s_ hf (r_load_agg ty39 hf rfl (o2.cl.lens lProd_0) (cForm.len _)) fun a hf => ?_
    refine s_ hf (r_eq (d := cForm) eq39 ⟨_, rfl⟩ gt39 hf rfl rfl) fun a hf => ?_
    refine s_ hf (r_move hf rfl) fun a hf => ?_
    rcases of_ite hF with ⟨hb11, hF⟩ | ⟨hb11, hF⟩
    rotate_left
    · refine st_no (b := false) hf rfl rfl rfl hb11 rfl (by decide) fun a hf => ?_
      refine st_no (b := false) hf rfl rfl rfl hb11 rfl (by decide) fun a hf => ?_
      refine s_ hf (r_pick (b := false) hf rfl hb11 rfl) fun a hf => ?_
      refine s_ hf (r_assign hf rfl) fun a hf => ?_
      refine c_nil ⟨rfl, ?_⟩
      obtain rfl := Option.some.inj hF
      exact ⟨_, hw, hf.sub ⟨rfl, rfl, rfl, rfl, rfl, rfl, trivial⟩, o1, o2, o3⟩
    refine st_g (b := true) hf rfl rfl rfl hb11 rfl (by decide) (r_move hf rfl) fun a hf => ?_
    refine st_g (b := true) hf rfl rfl rfl hb11 rfl (by decide) (r_neq hf rfl rfl) fun a hf => ?_
    refine s_ hf (r_pick (b := true) hf rfl hb11 rfl) fun a hf => ?_
    refine s_ hf (r_assign hf rfl) fun a hf => ?_
    refine c_nil ⟨rfl, ?_⟩
    obtain rfl := Option.some.inj hF
    exact ⟨_, hw, hf.sub ⟨rfl, rfl, rfl, rfl, rfl, rfl, trivial⟩, o1, o2, o3⟩
  rintro a w ⟨ρ, hw, hf, o1, o2, o3⟩
  have hF := hG9
  refine n_then ?_
  rcases of_ite hF with ⟨hb12, hF⟩ | ⟨hb12, hF⟩
  · refine c_ift hf rfl hb12 <| c_region ?_
    refine s_ hf (r_move hf rfl) fun a hf => ?_
    refine s_ hf (r_fa fa78_1 hf rfl) fun a hf => ?_
    refine s_ hf (r_load_agg ty39 hf rfl (o1.cl.lens lProd_1) (cForm.len _)) fun a hf => ?_
    refine s_ hf (r_fa fa78_1 hf rfl) fun a hf => ?_
    refine s_ hf (r_load_agg ty39 hf rfl (o2.cl.lens lProd_1) (cForm.len _)) fun a hf => ?_
    refine s_ hf (r_move hf rfl) fun a hf => ?_
    obtain ⟨x13, hx14, hF⟩ := of_bind hF
    refine st_fn 6 hw hf rfl rfl (by decide) (r_fn en72 hf rfl) (spec_l01Add_ok  hx14) fun a v w ρ hf hw hE hN hΦ => ?_
    obtain rfl := hΦ
    replace o1 := o1.ext hE
    replace o2 := o2.ext hE
    replace o3 := o3.ext hE
    refine s_ hf (r_fa fa78_1 hf rfl) fun a hf => ?_
    refine sk_ hf (r_store_l (b := x13) hw o1 (by decide) lProd_1 (by simp only [Nat.zero_add] <;> rfl) ty39 hf rfl rfl rfl) fun a w hf hΦ => ?_
    obtain ⟨hw, hA, o1⟩ := hΦ
    replace o2 := o2.adv hA (by decide)
    replace o3 := o3.adv hA (by decide)
    refine c_nil <| n_block <| n_then <| c_seq <| c_region ?_
    refine s_ hf (r_load_agg ty78 hf rfl o1.cl (cProd.len _)) fun a hf => ?_
    refine sk_ hf (r_store_w (cs' := cProd.enc (a1.1, x13, a1.2.2)) hw o3 (by decide) ty78 (cProd.len _) (cProd.len _) (cProd.one _) hf rfl rfl rfl) fun a w hf hΦ => ?_
    obtain ⟨hw, hA, o3⟩ := hΦ
    replace o1 := o1.adv hA (by decide)
    replace o2 := o2.adv hA (by decide)
    refine s_ hf (r_assign hf rfl) fun a hf => ?_
    refine c_nt <| c_retc ?_
    obtain rfl := Option.some.inj hF
    refine c_ret hf (res_ct Try.results167 ty78 hf rfl o3.cl (cProd.len _) rfl) ?_
    exact ⟨_, rfl, hw.below, rfl⟩
  refine c_iff hf rfl hb12 <| c_seq ?_
  obtain ⟨s16, hT15, hG15⟩ := of_bind hF
  clear hF
  refine c_meet (fun (s16 : Bool) a w => ∃ ρ, Wd w0 ρ w ∧ Fr 73 a [(0, vI a0), (4, .pointer (some ((⟨g1, 0, none⟩ : Addr).add 0))), (5, .pointer (some ((⟨g2, 0, none⟩ : Addr).add 0))), (6, .pointer (some ((⟨g3, 0, none⟩ : Addr).add 0))), (8, vI x1), (54, .bool s16)] ∧ Va ρ w 1 g1 78 (cProd.enc a1) ∧ Va ρ w 2 g2 78 (cProd.enc a2) ∧ Va ρ w 3 g3 78 (cProd.enc zProd)) s16 ?_ ?_
  · have hF := hT15
    refine c_region ?_
    refine s_ hf (r_fa fa78_1 hf rfl) fun a hf => ?_
    refine s_ hf (r_load_agg ty39 hf rfl (o1.cl.lens lProd_1) (cForm.len _)) fun a hf => ?_
    refine s_ hf (r_fa fa78_1 hf rfl) fun a hf => ?_
    refine s_ hf (r_load_agg ty39 hf rfl (o2.cl.lens lProd_1) (cForm.len _)) fun a hf => ?_
    refine s_ hf (r_eq (d := cForm) eq39 ⟨_, rfl⟩ gt39 hf rfl rfl) fun a hf => ?_
    refine s_ hf (r_move hf rfl) fun a hf => ?_
    rcases of_ite hF with ⟨hb17, hF⟩ | ⟨hb17, hF⟩
    rotate_left
    · refine st_no (b := false) hf rfl rfl rfl hb17 rfl (by decide) fun a hf => ?_
      refine st_no (b := false) hf rfl rfl rfl hb17 rfl (by decide) fun a hf => ?_
      refine s_ hf (r_pick (b := false) hf rfl hb17 rfl) fun a hf => ?_
      refine s_ hf (r_assign hf rfl) fun a hf => ?_
      refine c_nil ⟨rfl, ?_⟩
      obtain rfl := Option.some.inj hF
      exact ⟨_, hw, hf.sub ⟨rfl, rfl, rfl, rfl, rfl, rfl, trivial⟩, o1, o2, o3⟩
    refine st_g (b := true) hf rfl rfl rfl hb17 rfl (by decide) (r_move hf rfl) fun a hf => ?_
    refine st_g (b := true) hf rfl rfl rfl hb17 rfl (by decide) (r_neq hf rfl rfl) fun a hf => ?_
    refine s_ hf (r_pick (b := true) hf rfl hb17 rfl) fun a hf => ?_
    refine s_ hf (r_assign hf rfl) fun a hf => ?_
    refine c_nil ⟨rfl, ?_⟩
    obtain rfl := Option.some.inj hF
    exact ⟨_, hw, hf.sub ⟨rfl, rfl, rfl, rfl, rfl, rfl, trivial⟩, o1, o2, o3⟩
  rintro a w ⟨ρ, hw, hf, o1, o2, o3⟩
  have hF := hG15
  refine n_then ?_
  rcases of_ite hF with ⟨hb18, hF⟩ | ⟨hb18, hF⟩
  rotate_left
  · refine c_iff hf rfl hb18 <| c_seq <| c_region ?_
    refine s_ hf (r_build_struct (pl := [(0, 9), (9, 9), (18, 9)]) (vs := []) (res := (cProd.enc zProd).toArray) Try.underlying78 (by kernel_rfl) ze78 hf rfl rfl rfl) fun a hf => ?_
    refine sk_ hf (r_store_w (cs' := cProd.enc zProd) hw o3 (by decide) ty78 (cProd.len _) (cProd.len _) (cProd.one _) hf rfl rfl rfl) fun a w hf hΦ => ?_
    obtain ⟨hw, hA, o3⟩ := hΦ
    replace o1 := o1.adv hA (by decide)
    replace o2 := o2.adv hA (by decide)
    refine s_ hf (r_assign hf rfl) fun a hf => ?_
    refine c_nt <| c_retc ?_
    obtain rfl := Option.some.inj hF
    refine r_block <| r_then <| c_ret hf (res_ct Try.results167 ty78 hf rfl o3.cl (cProd.len _) rfl) ?_
    exact ⟨_, rfl, hw.below, rfl⟩
  refine c_ift hf rfl hb18 <| c_region ?_
  refine s_ hf (r_move hf rfl) fun a hf => ?_
  refine s_ hf (r_fa fa78_0 hf rfl) fun a hf => ?_
  refine s_ hf (r_load_agg ty39 hf rfl (o1.cl.lens lProd_0) (cForm.len _)) fun a hf => ?_
  refine s_ hf (r_fa fa78_0 hf rfl) fun a hf => ?_
  refine s_ hf (r_load_agg ty39 hf rfl (o2.cl.lens lProd_0) (cForm.len _)) fun a hf => ?_
  refine s_ hf (r_move hf rfl) fun a hf => ?_
  obtain ⟨x19, hx20, hF⟩ := of_bind hF
  refine st_fn 7 hw hf rfl rfl (by decide) (r_fn en72 hf rfl) (spec_l01Add_ok  hx20) fun a v w ρ hf hw hE hN hΦ => ?_
  obtain rfl := hΦ
  replace o1 := o1.ext hE
  replace o2 := o2.ext hE
  replace o3 := o3.ext hE
  refine s_ hf (r_fa fa78_0 hf rfl) fun a hf => ?_
  refine sk_ hf (r_store_l (b := x19) hw o1 (by decide) lProd_0 (by simp only [Nat.zero_add] <;> rfl) ty39 hf rfl rfl rfl) fun a w hf hΦ => ?_
  obtain ⟨hw, hA, o1⟩ := hΦ
  replace o2 := o2.adv hA (by decide)
  replace o3 := o3.adv hA (by decide)
  refine c_nil <| n_block <| n_then <| c_seq <| c_region ?_
  refine s_ hf (r_load_agg ty78 hf rfl o1.cl (cProd.len _)) fun a hf => ?_
  refine sk_ hf (r_store_w (cs' := cProd.enc (x19, a1.2.1, a1.2.2)) hw o3 (by decide) ty78 (cProd.len _) (cProd.len _) (cProd.one _) hf rfl rfl rfl) fun a w hf hΦ => ?_
  obtain ⟨hw, hA, o3⟩ := hΦ
  replace o1 := o1.adv hA (by decide)
  replace o2 := o2.adv hA (by decide)
  refine s_ hf (r_assign hf rfl) fun a hf => ?_
  refine c_nt <| c_retc ?_
  obtain rfl := Option.some.inj hF
  refine c_ret hf (res_ct Try.results167 ty78 hf rfl o3.cl (cProd.len _) rfl) ?_
  exact ⟨_, rfl, hw.below, rfl⟩
/-! f148 -/
noncomputable def spec_l03Step_l4 (a0 : Sch) (s2 : Int) (s5 : Int) : Option (LR Int (Sch × Bool)) :=
  if (decide (s5 < (a0.ps.length : Int))) = true then (if 0 ≤ s2 ∧ s2 < (a0.ps.length : Int) then (if 0 ≤ s5 ∧ s5 < (a0.ps.length : Int) then ((spec_l03Join a0.p (gl zProd a0.ps s2) (gl zProd a0.ps s5)).bind fun x11 => if (!x11.2) = true then (some (.next (w64 (s5 + 1)))) else (if (0 : Int) ≤ s5 ∧ s5 ≤ (a0.ps.length : Int) then (if (([] : List Prod).length + ((a0.ps.take s5.toNat).drop (0 : Int).toNat).length) * 27 ≤ 140737488355328 then (if 0 ≤ w64 (s5 + 1) ∧ w64 (s5 + 1) ≤ (a0.ps.length : Int) then (if ((([] : List Prod) ++ ((a0.ps.take s5.toNat).drop (0 : Int).toNat)).length + ((a0.ps.take (a0.ps.length : Int).toNat).drop (w64 (s5 + 1)).toNat).length) * 27 ≤ 140737488355328 then (if 0 ≤ s2 ∧ s2 < (((([] : List Prod) ++ ((a0.ps.take s5.toNat).drop (0 : Int).toNat)) ++ ((a0.ps.take (a0.ps.length : Int).toNat).drop (w64 (s5 + 1)).toNat)).length : Int) then ((spec_l03Told a0 (((([] : List Prod) ++ ((a0.ps.take s5.toNat).drop (0 : Int).toNat)) ++ ((a0.ps.take (a0.ps.length : Int).toNat).drop (w64 (s5 + 1)).toNat)).set s2.toNat x11.1)).bind fun x22 => (spec_l03AllNormal x22).bind fun x26 => some (.ret (x26, true))) else none) else none) else none) else none) else none)) else none) else none) else (some (.stop s5))
noncomputable def spec_l03Step_l1 (a0 : Sch) (s2 : Int) : Option (LR Int (Sch × Bool)) :=
  if (decide (s2 < (a0.ps.length : Int))) = true then ((iter (fun s => spec_l03Step_l4 a0 s2 s) (w64 (s2 + 1))).bind fun o => match o with | .stop s5 => (some (.next (w64 (s2 + 1)))) | .ret r => some (.ret r) | .next _ => none) else (some (.stop s2))
noncomputable def spec_l03Step (a0 : Sch) : Option (Sch × Bool) :=
  (iter (fun s => spec_l03Step_l1 a0 s) 0).bind fun o => match o with | .stop s2 => (some ((a0, false))) | .ret r => some r | .next _ => none
theorem spec_l03Step_ok {w0 ws : World} {ρ0 : Nat → Nat} {i : Nat} (hi : i ≠ 0) (hW : Wd w0 ρ0 ws) {a0 : Sch} {va0 : Value} (h0 : Ow (kf cProd) 78 ρ0 ws w0.heap.size i va0 a0.ps) {r : Sch × Bool} (hF : spec_l03Step a0 = some r) :
    Calls Try.prog 148 [.agg ([vI a0.p, vI a0.n, vI a0.m, vI a0.k, va0]).toArray].toArray ws fun e w => ∃ v, e = .returned v ∧ ∃ ρ', Wd w0 ρ' w ∧ Adv i ρ0 ws ρ' w ∧ ∃ u0, .tuple #[.agg [.int .i64 r.1.p, .int .i64 r.1.n, .int .i64 r.1.m, .int .i64 r.1.k, u0].toArray, .bool r.2] = v ∧ Ow (kf cProd) 78 ρ' w w0.heap.size i u0 r.1.ps := by
  refine calls_of (k := 65) Try.func148 rfl rfl (Nat.le_of_ble_eq_true rfl) fun a hf => ?_
  replace hf : Fr 65 a [(0, .agg ([vI a0.p, vI a0.n, vI a0.m, vI a0.k, va0]).toArray)] := hf
  refine c_startm hi hW h0 fun w ρ hw oA o1 => ?_
  unfold spec_l03Step at hF
  refine c_seq <| c_region ?_
  refine sx_ hf (r_box (cs := [vI a0.p, vI a0.n, vI a0.m, vI a0.k, va0]) 2 hw hf rfl rfl) fun a v w hf hΦ => ?_
  obtain ⟨g2, ρ, rfl, hw, hE, o2⟩ := hΦ
  replace oA := oA.ext hE
  replace o1 := o1.ext hE
  have o4 : Ow (kf cProd) 78 ρ w w0.heap.size 4 (.slice none 0 0) [] := Ow.nil _ _ _ _ _ _
  refine sx_ hf (r_alloc (cs := [vI 0, vI 0, vI 0, vI 0, (.slice none 0 0)]) 3 ze28 rfl hw) fun a v w hf hΦ => ?_
  obtain ⟨g3, ρ, rfl, hw, hE, o3⟩ := hΦ
  replace oA := oA.ext hE
  replace o1 := o1.ext hE
  replace o2 := o2.ext hE
  replace o4 := o4.ext hE
  refine s_ hf (r_assign hf rfl) fun a hf => ?_
  refine c_nt <| c_seq <| c_seq <| c_region ?_
  refine s_ hf (r_assign hf rfl) fun a hf => ?_
  refine c_nt ?_
  obtain ⟨ol1, ho1, hG1⟩ := of_bind hF
  clear hF
  refine c_block (c_loop (id := 0) (fun s => spec_l03Step_l1 a0 s) (fun (s2 : Int) a w => ∃ ρ, Wd w0 ρ w ∧ Fr 65 a [(1, .pointer (some ((⟨g2, 0, none⟩ : Addr).add 0))), (2, .pointer (some ((⟨g3, 0, none⟩ : Addr).add 0))), (4, vI s2)] ∧ Old (oneOf ρ0 i) ws ρ w ∧ O78 ρ w w0 1 va0 a0.ps ∧ Va ρ w 2 g2 28 ([vI a0.p, vI a0.n, vI a0.m, vI a0.k, va0]) ∧ Va ρ w 3 g3 28 ([vI 0, vI 0, vI 0, vI 0, (.slice none 0 0)]) ∧ O78 ρ w w0 4 (.slice none 0 0) ([] : List Prod)) (fun (s2 : Int) a w => ∃ ρ, Wd w0 ρ w ∧ Fr 65 a [(1, .pointer (some ((⟨g2, 0, none⟩ : Addr).add 0))), (2, .pointer (some ((⟨g3, 0, none⟩ : Addr).add 0)))] ∧ Old (oneOf ρ0 i) ws ρ w ∧ O78 ρ w w0 1 va0 a0.ps ∧ Va ρ w 2 g2 28 ([vI a0.p, vI a0.n, vI a0.m, vI a0.k, va0]) ∧ Va ρ w 3 g3 28 ([vI 0, vI 0, vI 0, vI 0, (.slice none 0 0)]) ∧ O78 ρ w w0 4 (.slice none 0 0) ([] : List Prod)) ho1 ⟨_, hw, hf.sub ⟨rfl, rfl, rfl, trivial⟩, oA, o1, o2, o3, o4⟩ ?_ ?_)
  · rintro s2 lr a w ⟨ρ, hw, hf, oA, o1, o2, o3, o4⟩ hF
    replace hF : spec_l03Step_l1 a0 s2 = some lr := hF
    unfold spec_l03Step_l1 at hF
    refine c_seq <| c_seq <| c_region ?_
    refine s_ hf (r_move hf rfl) fun a hf => ?_
    refine s_ hf (r_fa fa28_4 hf rfl) fun a hf => ?_
    refine s_ hf (r_load_cell ty26 hf rfl (o2.cl.at_ 4 _ rfl)) fun a hf => ?_
    refine s_ hf (r_len Try.underlying26 o1.ro hf rfl) fun a hf => ?_
    refine s_ hf (r_lss hf rfl rfl) fun a hf => ?_
    refine c_nt ?_
    rcases of_ite hF with ⟨hb3, hF⟩ | ⟨hb3, hF⟩
    rotate_left
    · refine c_iff hf rfl hb3 <| c_exit <| x_then ?_
      obtain rfl := Option.some.inj hF
      exact Rnd.stops ⟨_, hw, hf.sub ⟨rfl, rfl, trivial⟩, oA, o1, o2, o3, o4⟩
    refine c_ift hf rfl hb3 <| c_skip <| n_then <| c_seq <| c_block <| c_seq <| c_region ?_
    refine s_ hf (r_move hf rfl) fun a hf => ?_
    refine s_ hf (r_add hf rfl rfl) fun a hf => ?_
    refine s_ hf (r_assign hf rfl) fun a hf => ?_
    refine c_nt ?_
    obtain ⟨ol4, ho4, hG4⟩ := of_bind hF
    clear hF
    refine c_block (c_loop (id := 2) (fun s => spec_l03Step_l4 a0 s2 s) (fun (s5 : Int) a w => ∃ ρ, Wd w0 ρ w ∧ Fr 65 a [(1, .pointer (some ((⟨g2, 0, none⟩ : Addr).add 0))), (2, .pointer (some ((⟨g3, 0, none⟩ : Addr).add 0))), (4, vI s2), (5, vI s5)] ∧ Old (oneOf ρ0 i) ws ρ w ∧ O78 ρ w w0 1 va0 a0.ps ∧ Va ρ w 2 g2 28 ([vI a0.p, vI a0.n, vI a0.m, vI a0.k, va0]) ∧ Va ρ w 3 g3 28 ([vI 0, vI 0, vI 0, vI 0, (.slice none 0 0)]) ∧ O78 ρ w w0 4 (.slice none 0 0) ([] : List Prod)) (fun (s5 : Int) a w => ∃ ρ, Wd w0 ρ w ∧ Fr 65 a [(1, .pointer (some ((⟨g2, 0, none⟩ : Addr).add 0))), (2, .pointer (some ((⟨g3, 0, none⟩ : Addr).add 0))), (4, vI s2)] ∧ Old (oneOf ρ0 i) ws ρ w ∧ O78 ρ w w0 1 va0 a0.ps ∧ Va ρ w 2 g2 28 ([vI a0.p, vI a0.n, vI a0.m, vI a0.k, va0]) ∧ Va ρ w 3 g3 28 ([vI 0, vI 0, vI 0, vI 0, (.slice none 0 0)]) ∧ O78 ρ w w0 4 (.slice none 0 0) ([] : List Prod)) ho4 ⟨_, hw, hf.sub ⟨rfl, rfl, rfl, rfl, trivial⟩, oA, o1, o2, o3, o4⟩ ?_ ?_)
    · rintro s5 lr a w ⟨ρ, hw, hf, oA, o1, o2, o3, o4⟩ hF
      replace hF : spec_l03Step_l4 a0 s2 s5 = some lr := hF
      unfold spec_l03Step_l4 at hF
      refine c_seq <| c_seq <| c_region ?_
      refine s_ hf (r_move hf rfl) fun a hf => ?_
      refine s_ hf (r_fa fa28_4 hf rfl) fun a hf => ?_
      refine s_ hf (r_load_cell ty26 hf rfl (o2.cl.at_ 4 _ rfl)) fun a hf => ?_
      refine s_ hf (r_len Try.underlying26 o1.ro hf rfl) fun a hf => ?_
      refine s_ hf (r_lss hf rfl rfl) fun a hf => ?_
      refine c_nt ?_
      rcases of_ite hF with ⟨hb6, hF⟩ | ⟨hb6, hF⟩
      rotate_left
      · refine c_iff hf rfl hb6 <| c_exit <| x_then ?_
        obtain rfl := Option.some.inj hF
        exact Rnd.stops ⟨_, hw, hf.sub ⟨rfl, rfl, rfl, trivial⟩, oA, o1, o2, o3, o4⟩
      refine c_ift hf rfl hb6 <| c_skip <| n_then <| c_seq <| c_block <| c_seq ?_
      obtain ⟨hc7, hF⟩ := of_guard hF
      obtain ⟨hc9, hF⟩ := of_guard hF
      obtain ⟨x11, hx12, hF⟩ := of_bind hF
      replace hf : Fr 65 a [(1, .pointer (some ((⟨g2, 0, none⟩ : Addr).add 0))), (2, .pointer (some ((⟨g3, 0, none⟩ : Addr).add 0))), (4, vI s2), (5, vI s5)] := hf.sub ⟨rfl, rfl, rfl, rfl, trivial⟩
      refine c_stage 18 [17] mixed (by kernel_rfl) (by kernel_rfl) (fun c ρ w => Old (oneOf ρ0 i) ws ρ w ∧ O78 ρ w w0 1 va0 a0.ps ∧ Va ρ w 2 g2 28 ([vI a0.p, vI a0.n, vI a0.m, vI a0.k, va0]) ∧ Va ρ w 3 g3 28 ([vI 0, vI 0, vI 0, vI 0, (.slice none 0 0)]) ∧ O78 ρ w w0 4 (.slice none 0 0) ([] : List Prod)) ?_ [fun c ρ w v => .pointer (some ((⟨g2, 0, none⟩ : Addr).add (0 + 0))) = v, fun c ρ w v => vI a0.p = v, fun c ρ w v => .pointer (some ((⟨g2, 0, none⟩ : Addr).add (0 + 4))) = v, fun c ρ w v => va0 = v, fun c ρ w v => vI s2 = v, fun c ρ w v => ∃ ad8, .pointer (some (ad8.add (s2.toNat * 27))) = v ∧ Ce ρ w 1 va0 a0.ps.length ad8 (s2.toNat * 27) (cProd.enc (gl zProd a0.ps s2)), fun c ρ w v => .agg (cProd.enc (gl zProd a0.ps s2)).toArray = v, fun c ρ w v => .pointer (some ((⟨g2, 0, none⟩ : Addr).add (0 + 4))) = v, fun c ρ w v => va0 = v, fun c ρ w v => vI s5 = v, fun c ρ w v => ∃ ad10, .pointer (some (ad10.add (s5.toNat * 27))) = v ∧ Ce ρ w 1 va0 a0.ps.length ad10 (s5.toNat * 27) (cProd.enc (gl zProd a0.ps s5)), fun c ρ w v => .agg (cProd.enc (gl zProd a0.ps s5)).toArray = v, fun c ρ w v => .tuple #[.agg (cProd.enc x11.1).toArray, .bool x11.2] = v, fun c ρ w v => .tuple #[.agg (cProd.enc x11.1).toArray, .bool x11.2] = v, fun c ρ w v => .agg (cProd.enc x11.1).toArray = v, fun c ρ w v => .bool x11.2 = v, fun c ρ w v => ∃ g8, .pointer (some ((⟨g8, 0, none⟩ : Addr).add 0)) = v ∧ (c ≤ 0 → Va ρ w 8 g8 78 (cProd.enc zProd)) ∧ (0 < c → Va ρ w 8 g8 78 (cProd.enc x11.1)), fun _ _ _ _ => True] ?_ hw ⟨oA, o1, o2, o3, o4⟩ hf ?_ ?_
      · intro c ρ w ρ' w' hE hG
        obtain ⟨oA, o1, o2, o3, o4⟩ := hG
        exact ⟨oA.ext hE, o1.ext hE, o2.ext hE, o3.ext hE, o4.ext hE⟩
      · exact LastsS.cons (fun _ _ _ _ _ _ _ h => h) <| LastsS.cons (fun _ _ _ _ _ _ _ h => h) <| LastsS.cons (fun _ _ _ _ _ _ _ h => h) <| LastsS.cons (fun _ _ _ _ _ _ _ h => h) <| LastsS.cons (fun _ _ _ _ _ _ _ h => h) <| LastsS.cons (fun c _ _ _ _ _ hE h => by obtain ⟨ad8, h, hl8⟩ := h; exact ⟨_, h, hl8.ext hE⟩) <| LastsS.cons (fun _ _ _ _ _ _ _ h => h) <| LastsS.cons (fun _ _ _ _ _ _ _ h => h) <| LastsS.cons (fun _ _ _ _ _ _ _ h => h) <| LastsS.cons (fun _ _ _ _ _ _ _ h => h) <| LastsS.cons (fun c _ _ _ _ _ hE h => by obtain ⟨ad10, h, hl10⟩ := h; exact ⟨_, h, hl10.ext hE⟩) <| LastsS.cons (fun _ _ _ _ _ _ _ h => h) <| LastsS.cons (fun _ _ _ _ _ _ _ h => h) <| LastsS.cons (fun _ _ _ _ _ _ _ h => h) <| LastsS.cons (fun _ _ _ _ _ _ _ h => h) <| LastsS.cons (fun _ _ _ _ _ _ _ h => h) <| LastsS.cons (fun c _ _ _ _ _ hE h => by obtain ⟨g8, h, hx, hy⟩ := h; exact ⟨_, h, fun h => (hx h).ext hE, (fun h => by obtain o8 := hy h; exact o8.ext hE)⟩) <| LastsS.cons (fun _ _ _ _ _ _ _ h => h) <| LastsS.nil
      · refine StepsS.float rfl ?_ <| StepsS.float rfl ?_ <| StepsS.float rfl ?_ <| StepsS.float rfl ?_ <| StepsS.float rfl ?_ <| StepsS.float rfl ?_ <| StepsS.float rfl ?_ <| StepsS.float rfl ?_ <| StepsS.float rfl ?_ <| StepsS.float rfl ?_ <| StepsS.float rfl ?_ <| StepsS.float rfl ?_ <| StepsS.float rfl ?_ <| StepsS.float rfl ?_ <| StepsS.float rfl ?_ <| StepsS.float rfl ?_ <| StepsS.float rfl ?_ <| StepsS.main 0 rfl rfl ?_ <| StepsS.nil
        · intro c ρ w a hs hw hG hf hd K hK
          obtain ⟨oA, o1, o2, o3, o4⟩ := hG
          exact dv_ hK hw (wn rfl) (r_fa fa28_0 hf rfl) rfl
        · intro c ρ w a hs hw hG hf hd K hK
          obtain ⟨oA, o1, o2, o3, o4⟩ := hG
          obtain ⟨_, ht0, rfl⟩ := hd 0 (by kernel_rfl) (by kernel_rfl)
          replace hf := hf.more ht0
          exact dv_ hK hw (wn rfl) (r_load_cell ty2 hf rfl (o2.cl.at_ 0 _ rfl)) rfl
        · intro c ρ w a hs hw hG hf hd K hK
          obtain ⟨oA, o1, o2, o3, o4⟩ := hG
          exact dv_ hK hw (wn rfl) (r_fa fa28_4 hf rfl) rfl
        · intro c ρ w a hs hw hG hf hd K hK
          obtain ⟨oA, o1, o2, o3, o4⟩ := hG
          obtain ⟨_, ht2, rfl⟩ := hd 2 (by kernel_rfl) (by kernel_rfl)
          replace hf := hf.more ht2
          exact dv_ hK hw (wn rfl) (r_load_cell ty26 hf rfl (o2.cl.at_ 4 _ rfl)) rfl
        · intro c ρ w a hs hw hG hf hd K hK
          obtain ⟨oA, o1, o2, o3, o4⟩ := hG
          exact dv_ hK hw (wn rfl) (r_move hf rfl) rfl
        · intro c ρ w a hs hw hG hf hd K hK
          obtain ⟨oA, o1, o2, o3, o4⟩ := hG
          obtain ⟨_, ht3, rfl⟩ := hd 3 (by kernel_rfl) (by kernel_rfl)
          replace hf := hf.more ht3
          obtain ⟨_, ht4, rfl⟩ := hd 4 (by kernel_rfl) (by kernel_rfl)
          replace hf := hf.more ht4
          obtain ⟨ad8, hl8⟩ := Ow.ce (d := cProd) o1 zProd hc7.1 hc7.2
          exact dv_ hK hw (wn rfl) (r_idx Try.underlying26 sz78 hf rfl hl8.at_ rfl hc7.1 hc7.2) (ex_ <| an_ rfl <| hl8)
        · intro c ρ w a hs hw hG hf hd K hK
          obtain ⟨oA, o1, o2, o3, o4⟩ := hG
          obtain ⟨_, ht5, ⟨ad8, rfl, hl8⟩⟩ := hd 5 (by kernel_rfl) (by kernel_rfl)
          replace hf := hf.more ht5
          exact dv_ hK hw (wn rfl) (r_load_agg ty78 hf rfl hl8.co.cl (cProd.len _)) rfl
        · intro c ρ w a hs hw hG hf hd K hK
          obtain ⟨oA, o1, o2, o3, o4⟩ := hG
          exact dv_ hK hw (wn rfl) (r_fa fa28_4 hf rfl) rfl
        · intro c ρ w a hs hw hG hf hd K hK
          obtain ⟨oA, o1, o2, o3, o4⟩ := hG
          obtain ⟨_, ht7, rfl⟩ := hd 7 (by kernel_rfl) (by kernel_rfl)
          replace hf := hf.more ht7
          exact dv_ hK hw (wn rfl) (r_load_cell ty26 hf rfl (o2.cl.at_ 4 _ rfl)) rfl
        · intro c ρ w a hs hw hG hf hd K hK
          obtain ⟨oA, o1, o2, o3, o4⟩ := hG
          exact dv_ hK hw (wn rfl) (r_move hf rfl) rfl
        · intro c ρ w a hs hw hG hf hd K hK
          obtain ⟨oA, o1, o2, o3, o4⟩ := hG
          obtain ⟨_, ht8, rfl⟩ := hd 8 (by kernel_rfl) (by kernel_rfl)
          replace hf := hf.more ht8
          obtain ⟨_, ht9, rfl⟩ := hd 9 (by kernel_rfl) (by kernel_rfl)
          replace hf := hf.more ht9
          obtain ⟨ad10, hl10⟩ := Ow.ce (d := cProd) o1 zProd hc9.1 hc9.2
          exact dv_ hK hw (wn rfl) (r_idx Try.underlying26 sz78 hf rfl hl10.at_ rfl hc9.1 hc9.2) (ex_ <| an_ rfl <| hl10)
        · intro c ρ w a hs hw hG hf hd K hK
          obtain ⟨oA, o1, o2, o3, o4⟩ := hG
          obtain ⟨_, ht10, ⟨ad10, rfl, hl10⟩⟩ := hd 10 (by kernel_rfl) (by kernel_rfl)
          replace hf := hf.more ht10
          exact dv_ hK hw (wn rfl) (r_load_agg ty78 hf rfl hl10.co.cl (cProd.len _)) rfl
        · intro c ρ w a hs hw hG hf hd K hK
          obtain ⟨oA, o1, o2, o3, o4⟩ := hG
          obtain ⟨_, ht1, rfl⟩ := hd 1 (by kernel_rfl) (by kernel_rfl)
          replace hf := hf.more ht1
          obtain ⟨_, ht6, rfl⟩ := hd 6 (by kernel_rfl) (by kernel_rfl)
          replace hf := hf.more ht6
          obtain ⟨_, ht11, rfl⟩ := hd 11 (by kernel_rfl) (by kernel_rfl)
          replace hf := hf.more ht11
          refine dc_ hK hw (wn rfl) (r_fn en167 hf rfl) (spec_l03Join_ok  hx12) fun v w' hΦ => ?_
          obtain ⟨hb, hΦ⟩ := hΦ
          obtain rfl := hΦ
          have hE := Ext.new (ρ := ρ) 7 hb
          exact ⟨_, hw.new 7 hb, hE, rfl⟩
        · intro c ρ w a hs hw hG hf hd K hK
          obtain ⟨oA, o1, o2, o3, o4⟩ := hG
          obtain ⟨_, ht12, rfl⟩ := hd 12 (by kernel_rfl) (by kernel_rfl)
          replace hf := hf.more ht12
          exact dv_ hK hw (wn rfl) (r_move hf rfl) rfl
        · intro c ρ w a hs hw hG hf hd K hK
          obtain ⟨oA, o1, o2, o3, o4⟩ := hG
          obtain ⟨_, ht13, rfl⟩ := hd 13 (by kernel_rfl) (by kernel_rfl)
          replace hf := hf.more ht13
          exact dv_ hK hw (wn rfl) (r_extract hf rfl rfl) rfl
        · intro c ρ w a hs hw hG hf hd K hK
          obtain ⟨oA, o1, o2, o3, o4⟩ := hG
          obtain ⟨_, ht13, rfl⟩ := hd 13 (by kernel_rfl) (by kernel_rfl)
          replace hf := hf.more ht13
          exact dv_ hK hw (wn rfl) (r_extract hf rfl rfl) rfl
        · intro c ρ w a hs hw hG hf hd K hK
          obtain ⟨oA, o1, o2, o3, o4⟩ := hG
          refine dx_ hK hw (wn rfl) (r_alloc (cs := cProd.enc zProd) 8 ze78 rfl hw) fun v w' hΦ => ?_
          obtain ⟨g8, ρ, rfl, hw, hE, o8⟩ := hΦ
          exact ⟨_, hw, hE, ex_ <| an_ rfl <| an_ (fun _ => o8) <| fun hc => absurd (hs 0 (by decide) (by kernel_rfl)) (Nat.not_le_of_lt hc)⟩
        · intro ρ w a S hw hG hf hS hdep hSi K hK
          obtain ⟨oA, o1, o2, o3, o4⟩ := hG
          have hfL := hf
          obtain ⟨_, ht14, rfl⟩ := hS 14 (by decide) (hdep 14 (by kernel_rfl)) (by kernel_rfl)
          replace hf := hf.more ht14
          obtain ⟨_, ht16, g8, rfl, hx16, hy16⟩ := hS 16 (by decide) (hdep 16 (by kernel_rfl)) (by kernel_rfl)
          have o8 := hx16 (by decide)
          replace hf := hf.more ht16
          refine m_skip (Γ := fun c ρ w => Old (oneOf ρ0 i) ws ρ w ∧ O78 ρ w w0 1 va0 a0.ps ∧ Va ρ w 2 g2 28 ([vI a0.p, vI a0.n, vI a0.m, vI a0.k, va0]) ∧ Va ρ w 3 g3 28 ([vI 0, vI 0, vI 0, vI 0, (.slice none 0 0)]) ∧ O78 ρ w w0 4 (.slice none 0 0) ([] : List Prod)) (Rl := [fun c ρ w v => .pointer (some ((⟨g2, 0, none⟩ : Addr).add (0 + 0))) = v, fun c ρ w v => vI a0.p = v, fun c ρ w v => .pointer (some ((⟨g2, 0, none⟩ : Addr).add (0 + 4))) = v, fun c ρ w v => va0 = v, fun c ρ w v => vI s2 = v, fun c ρ w v => ∃ ad8, .pointer (some (ad8.add (s2.toNat * 27))) = v ∧ Ce ρ w 1 va0 a0.ps.length ad8 (s2.toNat * 27) (cProd.enc (gl zProd a0.ps s2)), fun c ρ w v => .agg (cProd.enc (gl zProd a0.ps s2)).toArray = v, fun c ρ w v => .pointer (some ((⟨g2, 0, none⟩ : Addr).add (0 + 4))) = v, fun c ρ w v => va0 = v, fun c ρ w v => vI s5 = v, fun c ρ w v => ∃ ad10, .pointer (some (ad10.add (s5.toNat * 27))) = v ∧ Ce ρ w 1 va0 a0.ps.length ad10 (s5.toNat * 27) (cProd.enc (gl zProd a0.ps s5)), fun c ρ w v => .agg (cProd.enc (gl zProd a0.ps s5)).toArray = v, fun c ρ w v => .tuple #[.agg (cProd.enc x11.1).toArray, .bool x11.2] = v, fun c ρ w v => .tuple #[.agg (cProd.enc x11.1).toArray, .bool x11.2] = v, fun c ρ w v => .agg (cProd.enc x11.1).toArray = v, fun c ρ w v => .bool x11.2 = v, fun c ρ w v => ∃ g8, .pointer (some ((⟨g8, 0, none⟩ : Addr).add 0)) = v ∧ (c ≤ 0 → Va ρ w 8 g8 78 (cProd.enc zProd)) ∧ (0 < c → Va ρ w 8 g8 78 (cProd.enc x11.1)), fun _ _ _ _ => True]) hfL hS (by kernel_rfl) rfl (wn rfl) (r_store_w (cs' := cProd.enc x11.1) hw o8 (by decide) ty78 (cProd.len _) (cProd.len _) (cProd.one _) hf rfl rfl rfl) (fun w' hΦ => ?_) hK
          obtain ⟨hw, hA, o8⟩ := hΦ
          replace oA := oA.adv hA (by decide)
          replace o1 := o1.adv hA (by decide)
          replace o2 := o2.adv hA (by decide)
          replace o3 := o3.adv hA (by decide)
          replace o4 := o4.adv hA (by decide)
          refine ⟨_, hw, ⟨oA, o1, o2, o3, o4⟩, ?_⟩
          · exact PassL.cons (fun h => h) <| PassL.cons (fun h => h) <| PassL.cons (fun h => h) <| PassL.cons (fun h => h) <| PassL.cons (fun h => h) <| PassL.cons (fun h => by obtain ⟨_, ht, ad8, h, hl8⟩ := h; exact ⟨_, ht, _, h, hl8.adv hA (by decide)⟩) <| PassL.cons (fun h => h) <| PassL.cons (fun h => h) <| PassL.cons (fun h => h) <| PassL.cons (fun h => h) <| PassL.cons (fun h => by obtain ⟨_, ht, ad10, h, hl10⟩ := h; exact ⟨_, ht, _, h, hl10.adv hA (by decide)⟩) <| PassL.cons (fun h => h) <| PassL.cons (fun h => h) <| PassL.cons (fun h => h) <| PassL.cons (fun h => h) <| PassL.cons (fun h => h) <| PassL.cons (fun _ => ⟨_, ht16, _, rfl, fun h => absurd h (by decide), fun _ => o8⟩) <| PassL.here <| PassL.nil
      intro ρ w a hw hG hf hd
      obtain ⟨oA, o1, o2, o3, o4⟩ := hG
      obtain ⟨_, hf, rfl⟩ := got (hd 15 (by decide) (by kernel_rfl)) hf
      obtain ⟨_, ht, g8, rfl, hx, hy⟩ := hd 16 (by decide) (by kernel_rfl)
      obtain o8 := hy (by decide)
      replace hf := hf.more ht
      refine s_ hf (r_assign hf rfl) fun a hf => ?_
      refine c_nt <| c_seq <| c_seq <| c_region ?_
      refine s_ hf (r_move hf rfl) fun a hf => ?_
      refine s_ hf (r_not hf rfl) fun a hf => ?_
      refine c_nt ?_
      rcases of_ite hF with ⟨hb13, hF⟩ | ⟨hb13, hF⟩
      · refine c_ift hf rfl hb13 <| c_exit <| x_then <| x_block <| n_then <| c_region ?_
        refine s_ hf (r_move hf rfl) fun a hf => ?_
        refine s_ hf (r_add hf rfl rfl) fun a hf => ?_
        refine s_ hf (r_assign hf rfl) fun a hf => ?_
        refine c_nil ?_
        obtain rfl := Option.some.inj hF
        exact Rnd.goes ⟨_, hw, hf.sub ⟨rfl, rfl, rfl, rfl, trivial⟩, oA, o1, o2, o3, o4⟩
      refine c_iff hf rfl hb13 <| c_skip <| n_then <| c_seq <| c_region ?_
      refine sx_ hf (r_lit (d := cProd) (xs := ([] : List Prod)) (vs := []) 9 Try.underlying26 el78 (Nat.le_of_ble_eq_true rfl) (Nat.le_of_ble_eq_true rfl) hw hf rfl rfl rfl) fun a v9 w hf hΦ => ?_
      obtain ⟨ρ, hw, hE, o9⟩ := hΦ
      replace oA := oA.ext hE
      replace o1 := o1.ext hE
      replace o2 := o2.ext hE
      replace o3 := o3.ext hE
      replace o4 := o4.ext hE
      replace o8 := o8.ext hE
      refine s_ hf (r_fa fa28_4 hf rfl) fun a hf => ?_
      refine s_ hf (r_load_cell ty26 hf rfl (o2.cl.at_ 4 _ rfl)) fun a hf => ?_
      refine s_ hf (r_move hf rfl) fun a hf => ?_
      obtain ⟨hc14, hF⟩ := of_guard hF
      have o10 : Ro (kf cProd) w (cutV va0 (0 : Int).toNat s5.toNat 27) ((a0.ps.take s5.toNat).drop (0 : Int).toNat) := ro_cutV o1.ro (Int.le_refl 0) hc14.1 hc14.2
      refine s_ hf (r_cut_v (lo := 0) (hi := s5) Try.underlying26 sz78 rfl o1.ro hf rfl (.inl ⟨rfl, rfl⟩) (.inr ⟨_, rfl, rfl⟩) (Int.le_refl 0) hc14.1 hc14.2) fun a hf => ?_
      obtain ⟨hc15, hF⟩ := of_guard hF
      refine sx_ hf (r_append Try.underlying26 el78 hw (by decide) o9 o10 hc15 hf rfl rfl) fun a va16 w hf hΦ => ?_
      obtain ⟨ρ, hw, hA, o9⟩ := hΦ
      replace oA := oA.adv hA (by decide)
      replace o1 := o1.adv hA (by decide)
      replace o2 := o2.adv hA (by decide)
      replace o3 := o3.adv hA (by decide)
      replace o4 := o4.adv hA (by decide)
      replace o8 := o8.adv hA (by decide)
      refine s_ hf (r_assign hf rfl) fun a hf => ?_
      refine c_nt <| c_seq <| c_region ?_
      refine s_ hf (r_move hf rfl) fun a hf => ?_
      refine s_ hf (r_fa fa28_4 hf rfl) fun a hf => ?_
      refine s_ hf (r_load_cell ty26 hf rfl (o2.cl.at_ 4 _ rfl)) fun a hf => ?_
      refine s_ hf (r_move hf rfl) fun a hf => ?_
      refine s_ hf (r_add hf rfl rfl) fun a hf => ?_
      obtain ⟨hc17, hF⟩ := of_guard hF
      have o11 : Ro (kf cProd) w (cutV va0 (w64 (s5 + 1)).toNat (a0.ps.length : Int).toNat 27) ((a0.ps.take (a0.ps.length : Int).toNat).drop (w64 (s5 + 1)).toNat) := ro_cutV o1.ro hc17.1 hc17.2 (Int.le_refl _)
      refine s_ hf (r_cut_v (lo := w64 (s5 + 1)) (hi := (a0.ps.length : Int)) Try.underlying26 sz78 rfl o1.ro hf rfl (.inr ⟨_, rfl, rfl⟩) (.inl ⟨rfl, rfl⟩) hc17.1 hc17.2 (Int.le_refl _)) fun a hf => ?_
      obtain ⟨hc18, hF⟩ := of_guard hF
      refine sx_ hf (r_append Try.underlying26 el78 hw (by decide) o9 o11 hc18 hf rfl rfl) fun a va19 w hf hΦ => ?_
      obtain ⟨ρ, hw, hA, o9⟩ := hΦ
      replace oA := oA.adv hA (by decide)
      replace o1 := o1.adv hA (by decide)
      replace o2 := o2.adv hA (by decide)
      replace o3 := o3.adv hA (by decide)
      replace o4 := o4.adv hA (by decide)
      replace o8 := o8.adv hA (by decide)
      refine s_ hf (r_assign hf rfl) fun a hf => ?_
      refine c_nt <| c_seq <| c_region ?_
      refine s_ hf (r_move hf rfl) fun a hf => ?_
      refine s_ hf (r_move hf rfl) fun a hf => ?_
      refine s_ hf (r_load_agg ty78 hf rfl o8.cl (cProd.len _)) fun a hf => ?_
      obtain ⟨hc20, hF⟩ := of_guard hF
      obtain ⟨ad21, hl21⟩ := Ow.ce (d := cProd) o9 zProd hc20.1 hc20.2
      refine s_ hf (r_idx Try.underlying26 sz78 hf rfl hl21.at_ rfl hc20.1 hc20.2) fun a hf => ?_
      refine sk_ hf (r_store_ec (b := x11.1) zProd hw (by decide) o9 hc20.1 hc20.2 (Lens.id _) hl21.at_ ty78 (by first | rfl | exact Nat.add_assoc _ _ _ | (simp only [Nat.add_assoc]; rfl)) hf rfl rfl rfl) fun a w hf hΦ => ?_
      obtain ⟨hw, hA, o9⟩ := hΦ
      replace oA := oA.adv hA (by decide)
      replace o1 := o1.adv hA (by decide)
      replace o2 := o2.adv hA (by decide)
      replace o3 := o3.adv hA (by decide)
      replace o4 := o4.adv hA (by decide)
      replace o8 := o8.adv hA (by decide)
      refine c_nt <| c_seq <| c_region ?_
      refine s_ hf (r_load_agg ty28 hf rfl o2.cl rfl) fun a hf => ?_
      refine s_ hf (r_move hf rfl) fun a hf => ?_
      obtain ⟨x22, hx23, hF⟩ := of_bind hF
      refine st_fn 13 hw hf rfl rfl (by decide) (r_fn en73 hf rfl) (spec_l03Told_ok (a0 := a0) o1.ro o9.ro hx23) fun a v w ρ hf hw hE hN hΦ => ?_
      obtain ⟨u24, rfl, hr25⟩ := hΦ
      replace oA := oA.ext hE
      replace o1 := o1.ext hE
      replace o2 := o2.ext hE
      replace o3 := o3.ext hE
      replace o4 := o4.ext hE
      replace o8 := o8.ext hE
      replace o9 := o9.ext hE
      have o13 := hN hr25
      obtain ⟨x26, hx27, hF⟩ := of_bind hF
      refine st_fn 14 hw hf rfl rfl (by decide) (r_fn en147 hf rfl) (spec_l03AllNormal_ok (a0 := x22) o13.ro hx27) fun a v w ρ hf hw hE hN hΦ => ?_
      obtain ⟨u28, rfl, hr29⟩ := hΦ
      replace oA := oA.ext hE
      replace o1 := o1.ext hE
      replace o2 := o2.ext hE
      replace o3 := o3.ext hE
      replace o4 := o4.ext hE
      replace o8 := o8.ext hE
      replace o9 := o9.ext hE
      replace o13 := o13.ext hE
      have o14 := hN hr29
      refine sk_ hf (r_store_w (cs' := [vI x26.p, vI x26.n, vI x26.m, vI x26.k, u28]) hw o3 (by decide) ty28 rfl rfl (one_sch o14.ro.one) hf rfl rfl rfl) fun a w hf hΦ => ?_
      obtain ⟨hw, hA, o3⟩ := hΦ
      replace oA := oA.adv hA (by decide)
      replace o1 := o1.adv hA (by decide)
      replace o2 := o2.adv hA (by decide)
      replace o4 := o4.adv hA (by decide)
      replace o8 := o8.adv hA (by decide)
      replace o9 := o9.adv hA (by decide)
      replace o13 := o13.adv hA (by decide)
      replace o14 := o14.adv hA (by decide)
      refine s_ hf (r_assign hf rfl) fun a hf => ?_
      refine c_nt <| c_retc ?_
      obtain rfl := Option.some.inj hF
      replace oA := oA.relab (j := 14) (fun k _ => oneOf_ne (by decide) k) 1
      replace o2 := o2.tr (Tr.relab (j := 14) (b := 1) (by decide))
      replace o3 := o3.tr (Tr.relab (j := 14) (b := 1) (by decide))
      replace o4 := o4.tr (Tr.relab (j := 14) (b := 1) (by decide))
      replace o8 := o8.tr (Tr.relab (j := 14) (b := 1) (by decide))
      replace o9 := o9.tr (Tr.relab (j := 14) (b := 1) (by decide))
      replace o13 := o13.tr (Tr.relab (j := 14) (b := 1) (by decide))
      replace o14 := o14.relab 1
      replace hw := hw.relab (j := 14) (by decide) 1
      refine r_block <| r_then ?_
      refine Rnd.rets fun ho => ?_
      subst ho
      have hF := hG4
      dsimp only at hF
      obtain rfl := Option.some.inj hF
      refine r_block <| r_block <| r_then ?_
      refine Rnd.rets fun ho => ?_
      subst ho
      have hF := hG1
      dsimp only at hF
      obtain rfl := Option.some.inj hF
      refine r_block <| r_then <| c_ret hf (res_ct Try.results148 ty28 hf rfl o3.cl rfl rfl) ?_
      exact ⟨_, rfl, _, m_wd hW hw oA, m_adv oA, _, rfl, m_ow oA o14⟩
    rintro s5 a w hs ⟨ρ, hw, hf, oA, o1, o2, o3, o4⟩
    subst hs
    have hF := hG4
    dsimp only at hF
    refine x_block <| n_block <| n_then <| c_region ?_
    refine s_ hf (r_move hf rfl) fun a hf => ?_
    refine s_ hf (r_add hf rfl rfl) fun a hf => ?_
    refine s_ hf (r_assign hf rfl) fun a hf => ?_
    refine c_nil ?_
    obtain rfl := Option.some.inj hF
    exact Rnd.goes ⟨_, hw, hf.sub ⟨rfl, rfl, rfl, trivial⟩, oA, o1, o2, o3, o4⟩
  rintro s2 a w hs ⟨ρ, hw, hf, oA, o1, o2, o3, o4⟩
  subst hs
  have hF := hG1
  dsimp only at hF
  refine x_block <| n_then <| c_seq <| c_region ?_
  refine s_ hf (r_load_agg ty28 hf rfl o2.cl rfl) fun a hf => ?_
  refine sk_ hf (r_store_w (cs' := [vI a0.p, vI a0.n, vI a0.m, vI a0.k, va0]) hw o3 (by decide) ty28 rfl rfl (one_sch o1.ro.one) hf rfl rfl rfl) fun a w hf hΦ => ?_
  obtain ⟨hw, hA, o3⟩ := hΦ
  replace oA := oA.adv hA (by decide)
  replace o1 := o1.adv hA (by decide)
  replace o2 := o2.adv hA (by decide)
  replace o4 := o4.adv hA (by decide)
  refine s_ hf (r_assign hf rfl) fun a hf => ?_
  refine c_nt <| c_retc ?_
  obtain rfl := Option.some.inj hF
  refine c_ret hf (res_ct Try.results148 ty28 hf rfl o3.cl rfl rfl) ?_
  exact ⟨_, rfl, _, m_wd hW hw oA, m_adv oA, _, rfl, m_ow oA o1⟩
/-! f112 -/
noncomputable def spec_l03Reduce_l5  (s6 : Bool) (s7 : List Prod) (s9 : Int) (s10 : Int) (s11 : Int) (s12 : Int) : Option (LR (Bool × (List Prod) × Int × Int × Int × Int) Sch) :=
  if s6 = true then ((spec_l03Step (⟨s9, s10, s11, s12, s7⟩ : Sch)).bind fun x14 => some (.next (x14.2, x14.1.ps, x14.1.p, x14.1.n, x14.1.m, x14.1.k))) else (some (.stop (s6, s7, s9, s10, s11, s12)))
noncomputable def spec_l03Reduce (a0 : Sch) : Option Sch :=
  (spec_l03AllNormal a0).bind fun x1 => (iter (fun s => spec_l03Reduce_l5  s.1 s.2.1 s.2.2.1 s.2.2.2.1 s.2.2.2.2.1 s.2.2.2.2.2) (true, x1.ps, x1.p, x1.n, x1.m, x1.k)).bind fun o => match o with | .stop (s6, s7, s9, s10, s11, s12) => (some ((⟨s9, s10, s11, s12, s7⟩ : Sch))) | .ret r => some r | .next _ => none
theorem spec_l03Reduce_ok {w0 : World} {a0 : Sch} {va0 : Value} (h0 : Ro (kf cProd) w0 va0 a0.ps) {r : Sch} (hF : spec_l03Reduce a0 = some r) :
    Calls Try.prog 112 [.agg ([vI a0.p, vI a0.n, vI a0.m, vI a0.k, va0]).toArray].toArray w0 fun e w => ∃ v, e = .returned v ∧ Below w0.heap.size w0 w ∧ ∃ u0, .agg [.int .i64 r.p, .int .i64 r.n, .int .i64 r.m, .int .i64 r.k, u0].toArray = v ∧ Fresh (kf cProd) 78 w0 w u0 r.ps := by
  refine calls_of (k := 18) Try.func112 rfl rfl (Nat.le_of_ble_eq_true rfl) fun a hf => ?_
  replace hf : Fr 18 a [(0, .agg ([vI a0.p, vI a0.n, vI a0.m, vI a0.k, va0]).toArray)] := hf
  refine c_start fun w ρ hw => ?_
  unfold spec_l03Reduce at hF
  refine c_seq <| c_region ?_
  refine sx_ hf (r_box (cs := [vI a0.p, vI a0.n, vI a0.m, vI a0.k, va0]) 1 hw hf rfl rfl) fun a v w hf hΦ => ?_
  obtain ⟨g1, ρ, rfl, hw, hE, o1⟩ := hΦ
  have o3 : Ow (kf cProd) 78 ρ w w0.heap.size 3 (.slice none 0 0) [] := Ow.nil _ _ _ _ _ _
  refine sx_ hf (r_alloc (cs := [vI 0, vI 0, vI 0, vI 0, (.slice none 0 0)]) 2 ze28 rfl hw) fun a v w hf hΦ => ?_
  obtain ⟨g2, ρ, rfl, hw, hE, o2⟩ := hΦ
  replace o1 := o1.ext hE
  replace o3 := o3.ext hE
  refine c_nt <| c_seq <| c_region ?_
  refine s_ hf (r_load_agg ty28 hf rfl o1.cl rfl) fun a hf => ?_
  obtain ⟨x1, hx2, hF⟩ := of_bind hF
  refine st_fn 4 hw hf rfl rfl (by decide) (r_fn en147 hf rfl) (spec_l03AllNormal_ok (a0 := a0) (h0.now hw) hx2) fun a v w ρ hf hw hE hN hΦ => ?_
  obtain ⟨u3, rfl, hr4⟩ := hΦ
  replace o1 := o1.ext hE
  replace o3 := o3.ext hE
  replace o2 := o2.ext hE
  have o4 := hN hr4
  have o6 : Ow (kf cProd) 78 ρ w w0.heap.size 6 (.slice none 0 0) [] := Ow.nil _ _ _ _ _ _
  refine sx_ hf (r_alloc (cs := [vI 0, vI 0, vI 0, vI 0, (.slice none 0 0)]) 5 ze28 rfl hw) fun a v w hf hΦ => ?_
  obtain ⟨g5, ρ, rfl, hw, hE, o5⟩ := hΦ
  replace o1 := o1.ext hE
  replace o3 := o3.ext hE
  replace o2 := o2.ext hE
  replace o4 := o4.ext hE
  replace o6 := o6.ext hE
  refine sk_ hf (r_store_w (cs' := [vI x1.p, vI x1.n, vI x1.m, vI x1.k, u3]) hw o5 (by decide) ty28 rfl rfl (one_sch o4.ro.one) hf rfl rfl rfl) fun a w hf hΦ => ?_
  obtain ⟨hw, hA, o5⟩ := hΦ
  replace o1 := o1.adv hA (by decide)
  replace o3 := o3.adv hA (by decide)
  replace o2 := o2.adv hA (by decide)
  replace o4 := o4.adv hA (by decide)
  replace o6 := o6.adv hA (by decide)
  refine s_ hf (r_assign hf rfl) fun a hf => ?_
  refine c_nt <| c_seq ?_
  obtain ⟨ol5, ho5, hG5⟩ := of_bind hF
  clear hF
  refine c_block (c_loop (id := 0) (fun s => spec_l03Reduce_l5  s.1 s.2.1 s.2.2.1 s.2.2.2.1 s.2.2.2.2.1 s.2.2.2.2.2) (fun (s : Bool × (List Prod) × Int × Int × Int × Int) a w => match s with | (s6, s7, s9, s10, s11, s12) => ∃ ρ v8, Wd w0 ρ w ∧ Fr 18 a [(2, .pointer (some ((⟨g2, 0, none⟩ : Addr).add 0))), (3, .pointer (some ((⟨g5, 0, none⟩ : Addr).add 0))), (4, .bool s6)] ∧ Va ρ w 2 g2 28 ([vI 0, vI 0, vI 0, vI 0, (.slice none 0 0)]) ∧ O78 ρ w w0 3 (.slice none 0 0) ([] : List Prod) ∧ O78 ρ w w0 4 v8 s7 ∧ Va ρ w 5 g5 28 ([vI s9, vI s10, vI s11, vI s12, v8])) (fun (s : Bool × (List Prod) × Int × Int × Int × Int) a w => match s with | (s6, s7, s9, s10, s11, s12) => ∃ ρ v8, Wd w0 ρ w ∧ Fr 18 a [(2, .pointer (some ((⟨g2, 0, none⟩ : Addr).add 0))), (3, .pointer (some ((⟨g5, 0, none⟩ : Addr).add 0)))] ∧ Va ρ w 2 g2 28 ([vI 0, vI 0, vI 0, vI 0, (.slice none 0 0)]) ∧ O78 ρ w w0 3 (.slice none 0 0) ([] : List Prod) ∧ O78 ρ w w0 4 v8 s7 ∧ Va ρ w 5 g5 28 ([vI s9, vI s10, vI s11, vI s12, v8])) ho5 ⟨_, _, hw, hf.sub ⟨rfl, rfl, rfl, trivial⟩, o2, o3, o4, o5⟩ ?_ ?_)
  · rintro ⟨s6, s7, s9, s10, s11, s12⟩ lr a w ⟨ρ, v8, hw, hf, o2, o3, o4, o5⟩ hF
    replace hF : spec_l03Reduce_l5  s6 s7 s9 s10 s11 s12 = some lr := hF
    unfold spec_l03Reduce_l5 at hF
    refine c_seq <| c_seq <| c_region ?_
    refine s_ hf (r_move hf rfl) fun a hf => ?_
    refine c_nt ?_
    rcases of_ite hF with ⟨hb13, hF⟩ | ⟨hb13, hF⟩
    rotate_left
    · refine c_iff hf rfl hb13 <| c_exit <| x_then ?_
      obtain rfl := Option.some.inj hF
      exact Rnd.stops ⟨_, _, hw, hf.sub ⟨rfl, rfl, trivial⟩, o2, o3, o4, o5⟩
    refine c_ift hf rfl hb13 <| c_skip <| n_then <| c_block <| c_seq <| c_region ?_
    refine s_ hf (r_load_agg ty28 hf rfl o5.cl rfl) fun a hf => ?_
    obtain ⟨x14, hx15, hF⟩ := of_bind hF
    refine st_mfn hf rfl rfl (by decide) (r_fn en148 hf rfl) (spec_l03Step_ok (a0 := (⟨s9, s10, s11, s12, s7⟩ : Sch)) (by decide) hw o4 hx15) fun a v w ρ hf hw hA hΦ => ?_
    obtain ⟨u16, rfl, o4⟩ := hΦ
    replace o2 := o2.adv hA (by decide)
    replace o3 := o3.adv hA (by decide)
    replace o5 := o5.adv hA (by decide)
    refine s_ hf (r_move hf rfl) fun a hf => ?_
    refine s_ hf (r_extract hf rfl rfl) fun a hf => ?_
    refine s_ hf (r_extract hf rfl rfl) fun a hf => ?_
    have o8 : Ow (kf cProd) 78 ρ w w0.heap.size 8 (.slice none 0 0) [] := Ow.nil _ _ _ _ _ _
    refine sx_ hf (r_alloc (cs := [vI 0, vI 0, vI 0, vI 0, (.slice none 0 0)]) 7 ze28 rfl hw) fun a v w hf hΦ => ?_
    obtain ⟨g7, ρ, rfl, hw, hE, o7⟩ := hΦ
    replace o2 := o2.ext hE
    replace o3 := o3.ext hE
    replace o4 := o4.ext hE
    replace o5 := o5.ext hE
    replace o8 := o8.ext hE
    refine sk_ hf (r_store_w (cs' := [vI x14.1.p, vI x14.1.n, vI x14.1.m, vI x14.1.k, u16]) hw o7 (by decide) ty28 rfl rfl (one_sch o4.ro.one) hf rfl rfl rfl) fun a w hf hΦ => ?_
    obtain ⟨hw, hA, o7⟩ := hΦ
    replace o2 := o2.adv hA (by decide)
    replace o3 := o3.adv hA (by decide)
    replace o4 := o4.adv hA (by decide)
    replace o5 := o5.adv hA (by decide)
    replace o8 := o8.adv hA (by decide)
    refine s_ hf (r_assign hf rfl) fun a hf => ?_
    refine c_nt <| c_seq <| c_region ?_
    refine s_ hf (r_load_agg ty28 hf rfl o7.cl rfl) fun a hf => ?_
    refine sk_ hf (r_store_w (cs' := [vI x14.1.p, vI x14.1.n, vI x14.1.m, vI x14.1.k, u16]) hw o5 (by decide) ty28 rfl rfl (one_sch o4.ro.one) hf rfl rfl rfl) fun a w hf hΦ => ?_
    obtain ⟨hw, hA, o5⟩ := hΦ
    replace o2 := o2.adv hA (by decide)
    replace o3 := o3.adv hA (by decide)
    replace o4 := o4.adv hA (by decide)
    replace o8 := o8.adv hA (by decide)
    replace o7 := o7.adv hA (by decide)
    refine c_nt <| c_region ?_
    refine s_ hf (r_move hf rfl) fun a hf => ?_
    refine s_ hf (r_assign hf rfl) fun a hf => ?_
    refine c_nil <| n_block ?_
    obtain rfl := Option.some.inj hF
    exact Rnd.goes ⟨_, _, hw, hf.sub ⟨rfl, rfl, rfl, trivial⟩, o2, o3, o4, o5⟩
  rintro ⟨s6, s7, s9, s10, s11, s12⟩ a w hs ⟨ρ, v8, hw, hf, o2, o3, o4, o5⟩
  subst hs
  have hF := hG5
  dsimp only at hF
  refine x_block <| n_then <| c_seq <| c_region ?_
  refine s_ hf (r_load_agg ty28 hf rfl o5.cl rfl) fun a hf => ?_
  refine sk_ hf (r_store_w (cs' := [vI s9, vI s10, vI s11, vI s12, v8]) hw o2 (by decide) ty28 rfl rfl (one_sch o4.ro.one) hf rfl rfl rfl) fun a w hf hΦ => ?_
  obtain ⟨hw, hA, o2⟩ := hΦ
  replace o3 := o3.adv hA (by decide)
  replace o4 := o4.adv hA (by decide)
  replace o5 := o5.adv hA (by decide)
  refine c_nt <| c_retc ?_
  obtain rfl := Option.some.inj hF
  refine c_ret hf (res_cell Try.results112 ty28 hf rfl o2.cl rfl) ?_
  exact ⟨_, rfl, hw.below, ⟨_, rfl, o4.out⟩⟩
/-! f50 -/
noncomputable def spec_ReduceScheme (a0 : Sch) : Option (Sch × Int) :=
  (spec_l01Is a0).bind fun x1 => if (!x1) = true then (some (((⟨0, 0, 0, 0, ([] : List Prod)⟩ : Sch), 1))) else ((spec_l03Reduce a0).bind fun x4 => some ((x4, 0)))
theorem spec_ReduceScheme_ok {w0 : World} {a0 : Sch} {va0 : Value} (h0 : Ro (kf cProd) w0 va0 a0.ps) {r : Sch × Int} (hF : spec_ReduceScheme a0 = some r) :
    Calls Try.prog 50 [.agg ([vI a0.p, vI a0.n, vI a0.m, vI a0.k, va0]).toArray].toArray w0 fun e w => ∃ v, e = .returned v ∧ Below w0.heap.size w0 w ∧ ∃ u0, .tuple #[.agg [.int .i64 r.1.p, .int .i64 r.1.n, .int .i64 r.1.m, .int .i64 r.1.k, u0].toArray, .int .i64 r.2] = v ∧ Fresh (kf cProd) 78 w0 w u0 r.1.ps := by
  refine calls_of (k := 10) Try.func50 rfl rfl (Nat.le_of_ble_eq_true rfl) fun a hf => ?_
  replace hf : Fr 10 a [(0, .agg ([vI a0.p, vI a0.n, vI a0.m, vI a0.k, va0]).toArray)] := hf
  refine c_start fun w ρ hw => ?_
  unfold spec_ReduceScheme at hF
  refine c_seq <| c_region ?_
  refine sx_ hf (r_box (cs := [vI a0.p, vI a0.n, vI a0.m, vI a0.k, va0]) 1 hw hf rfl rfl) fun a v w hf hΦ => ?_
  obtain ⟨g1, ρ, rfl, hw, hE, o1⟩ := hΦ
  have o3 : Ow (kf cProd) 78 ρ w w0.heap.size 3 (.slice none 0 0) [] := Ow.nil _ _ _ _ _ _
  refine sx_ hf (r_alloc (cs := [vI 0, vI 0, vI 0, vI 0, (.slice none 0 0)]) 2 ze28 rfl hw) fun a v w hf hΦ => ?_
  obtain ⟨g2, ρ, rfl, hw, hE, o2⟩ := hΦ
  replace o1 := o1.ext hE
  replace o3 := o3.ext hE
  refine s_ hf (r_assign hf rfl) fun a hf => ?_
  refine c_nt <| c_seq <| c_seq <| c_region ?_
  refine s_ hf (r_load_agg ty28 hf rfl o1.cl rfl) fun a hf => ?_
  obtain ⟨x1, hx2, hF⟩ := of_bind hF
  refine st_fn 4 hw hf rfl rfl (by decide) (r_fn en69 hf rfl) (spec_l01Is_ok (a0 := a0) (h0.now hw) hx2) fun a v w ρ hf hw hE hN hΦ => ?_
  obtain rfl := hΦ
  replace o1 := o1.ext hE
  replace o3 := o3.ext hE
  replace o2 := o2.ext hE
  refine s_ hf (r_not hf rfl) fun a hf => ?_
  refine c_nt ?_
  rcases of_ite hF with ⟨hb3, hF⟩ | ⟨hb3, hF⟩
  · refine c_ift hf rfl hb3 <| c_seq <| c_region ?_
    have o5 : Ow (kf cProd) 78 ρ w w0.heap.size 5 (.slice none 0 0) [] := Ow.nil _ _ _ _ _ _
    refine s_ hf (r_build_struct (pl := [(0, 1), (1, 1), (2, 1), (3, 1), (4, 1)]) (vs := []) (res := ([vI 0, vI 0, vI 0, vI 0, (.slice none 0 0)]).toArray) Try.underlying28 (by kernel_rfl) ze28 hf rfl rfl rfl) fun a hf => ?_
    refine sk_ hf (r_store_w (cs' := [vI 0, vI 0, vI 0, vI 0, (.slice none 0 0)]) hw o2 (by decide) ty28 rfl rfl (one_sch o5.ro.one) hf rfl rfl rfl) fun a w hf hΦ => ?_
    obtain ⟨hw, hA, o2⟩ := hΦ
    replace o1 := o1.adv hA (by decide)
    replace o3 := o3.adv hA (by decide)
    replace o5 := o5.adv hA (by decide)
    refine s_ hf (r_assign hf rfl) fun a hf => ?_
    refine c_nt <| c_retc ?_
    obtain rfl := Option.some.inj hF
    refine r_then <| c_ret hf (res_ct Try.results50 ty28 hf rfl o2.cl rfl rfl) ?_
    exact ⟨_, rfl, hw.below, ⟨_, rfl, o5.out⟩⟩
  refine c_iff hf rfl hb3 <| c_skip <| n_then <| c_seq <| c_region ?_
  refine s_ hf (r_load_agg ty28 hf rfl o1.cl rfl) fun a hf => ?_
  obtain ⟨x4, hx5, hF⟩ := of_bind hF
  refine st_fn 6 hw hf rfl rfl (by decide) (r_fn en112 hf rfl) (spec_l03Reduce_ok (a0 := a0) (h0.now hw) hx5) fun a v w ρ hf hw hE hN hΦ => ?_
  obtain ⟨u6, rfl, hr7⟩ := hΦ
  replace o1 := o1.ext hE
  replace o3 := o3.ext hE
  replace o2 := o2.ext hE
  have o6 := hN hr7
  refine sk_ hf (r_store_w (cs' := [vI x4.p, vI x4.n, vI x4.m, vI x4.k, u6]) hw o2 (by decide) ty28 rfl rfl (one_sch o6.ro.one) hf rfl rfl rfl) fun a w hf hΦ => ?_
  obtain ⟨hw, hA, o2⟩ := hΦ
  replace o1 := o1.adv hA (by decide)
  replace o3 := o3.adv hA (by decide)
  replace o6 := o6.adv hA (by decide)
  refine s_ hf (r_assign hf rfl) fun a hf => ?_
  refine c_nt <| c_retc ?_
  obtain rfl := Option.some.inj hF
  refine c_ret hf (res_ct Try.results50 ty28 hf rfl o2.cl rfl rfl) ?_
  exact ⟨_, rfl, hw.below, ⟨_, rfl, o6.out⟩⟩
/-! f180snil -/
noncomputable def slices_Grow_180_fnil (a1 : Int) : Option (List Prod) :=
  if (decide (a1 < 0)) = true then (none) else (if (decide (0 < (w64 (a1 - (w64 (0 - (([] : List Prod).length : Int))))))) = true then (if 0 < w64 (a1 - (w64 (0 - (([] : List Prod).length : Int)))) ∧ (w64 (a1 - (w64 (0 - (([] : List Prod).length : Int))))).toNat * 27 ≤ 140737488355328 then (if (0 : Int) ≤ (([] : List Prod).length : Int) ∧ (([] : List Prod).length : Int) ≤ ((List.replicate (w64 (a1 - (w64 (0 - (([] : List Prod).length : Int))))).toNat (zProd : Prod)).length : Int) then (some (((List.replicate (w64 (a1 - (w64 (0 - (([] : List Prod).length : Int))))).toNat (zProd : Prod)).take (([] : List Prod).length : Int).toNat))) else none) else none) else (some (([] : List Prod))))
theorem slices_Grow_180_fnil_ok {w0 : World} {a1 : Int}   {r : List Prod} (hF : slices_Grow_180_fnil a1 = some r) :
    Calls Try.prog 180 [.slice none 0 0, vI a1].toArray w0 fun e w => ∃ v, e = .returned v ∧ Below w0.heap.size w0 w ∧ ∃ u0, u0 = v ∧ Fresh (kf cProd) 78 w0 w u0 r := by
  refine calls_of (k := 27) Try.func180 rfl rfl (Nat.le_of_ble_eq_true rfl) fun a hf => ?_
  replace hf : Fr 27 a [(0, (.slice none 0 0)), (1, vI a1)] := hf
  refine c_start fun w ρ hw => ?_
  unfold slices_Grow_180_fnil at hF
  have o1 : O78 ρ w w0 1 (.slice none 0 0) [] := Ow.nil _ _ _ _ _ _
  refine c_seq <| c_region ?_
  have o2 : Ow (kf cProd) 78 ρ w w0.heap.size 2 (.slice none 0 0) [] := Ow.nil _ _ _ _ _ _
  refine s_ hf (r_assign hf rfl) fun a hf => ?_
  refine c_nt <| c_seq <| c_seq <| c_region ?_
  refine s_ hf (r_move hf rfl) fun a hf => ?_
  refine s_ hf (r_lss hf rfl rfl) fun a hf => ?_
  refine c_nt ?_
  rcases of_ite hF with ⟨hb1, hF⟩ | ⟨hb1, hF⟩
  · refine c_ift hf rfl hb1 <| c_region ?_
    cases hF
  refine c_iff hf rfl hb1 <| c_skip <| n_then <| c_seq <| c_seq <| c_region ?_
  refine s_ hf (r_move hf rfl) fun a hf => ?_
  refine s_ hf (r_move hf rfl) fun a hf => ?_
  refine s_ hf (r_cap0 Try.underlying26 hf rfl) fun a hf => ?_
  refine s_ hf (r_move hf rfl) fun a hf => ?_
  refine s_ hf (r_len Try.underlying26 o1.ro hf rfl) fun a hf => ?_
  refine s_ hf (r_sub hf rfl rfl) fun a hf => ?_
  refine s_ hf (r_sub hf rfl rfl) fun a hf => ?_
  refine s_ hf (r_assign hf rfl) fun a hf => ?_
  refine c_nt <| c_seq <| c_region ?_
  refine s_ hf (r_move hf rfl) fun a hf => ?_
  refine s_ hf (r_gtr hf rfl rfl) fun a hf => ?_
  refine c_nt ?_
  rcases of_ite hF with ⟨hb2, hF⟩ | ⟨hb2, hF⟩
  rotate_left
  · refine c_iff hf rfl hb2 <| c_skip <| n_then <| c_seq <| c_region ?_
    refine s_ hf (r_move hf rfl) fun a hf => ?_
    refine s_ hf (r_assign hf rfl) fun a hf => ?_
    refine c_nt <| c_retc ?_
    obtain rfl := Option.some.inj hF
    refine c_ret hf (res_tmp Try.results180 hf rfl) ?_
    exact ⟨_, rfl, hw.below, ⟨_, rfl, o1.out⟩⟩
  refine c_ift hf rfl hb2 <| c_region ?_
  refine s_ hf (r_move hf rfl) fun a hf => ?_
  refine s_ hf (r_move hf rfl) fun a hf => ?_
  refine s_ hf (r_cap0 Try.underlying26 hf rfl) fun a hf => ?_
  have o3 : Ow (kf cProd) 78 ρ w w0.heap.size 3 (.slice none 0 0) [] := Ow.nil _ _ _ _ _ _
  refine s_ hf (r_cut_nil Try.underlying26 sz78 hf rfl rfl) fun a hf => ?_
  refine s_ hf (r_move hf rfl) fun a hf => ?_
  obtain ⟨hc3, hF⟩ := of_guard hF
  refine sx_ hf (r_app_mk (d := cProd) (z0 := zProd) 4 Try.underlying26 Try.underlying3 el78 rfl hw hf rfl rfl hc3.1 hc3.2) fun a v4 w hf hΦ => ?_
  obtain ⟨ρ, hw, hE, o4⟩ := hΦ
  replace o1 := o1.ext hE
  replace o2 := o2.ext hE
  replace o3 := o3.ext hE
  refine s_ hf (r_move hf rfl) fun a hf => ?_
  refine s_ hf (r_len Try.underlying26 o1.ro hf rfl) fun a hf => ?_
  obtain ⟨hc4, hF⟩ := of_guard hF
  refine s_ hf (r_cut_v (lo := 0) (hi := (([] : List Prod).length : Int)) Try.underlying26 sz78 rfl o4.ro hf rfl (.inl ⟨rfl, rfl⟩) (.inr ⟨_, rfl, rfl⟩) (Int.le_refl 0) hc4.1 hc4.2) fun a hf => ?_
  replace o4 : Ow (kf cProd) 78 ρ w w0.heap.size 4 (cutV v4 0 (([] : List Prod).length : Int).toNat 27) ((List.replicate (w64 (a1 - (w64 (0 - (([] : List Prod).length : Int))))).toNat (zProd : Prod)).take (([] : List Prod).length : Int).toNat) := Ow.take o4 (Int.le_trans (Int.le_refl 0) hc4.1) hc4.2 27
  refine s_ hf (r_assign hf rfl) fun a hf => ?_
  refine c_nt <| c_seq <| c_region ?_
  refine s_ hf (r_move hf rfl) fun a hf => ?_
  refine s_ hf (r_assign hf rfl) fun a hf => ?_
  refine c_nt <| c_retc ?_
  obtain rfl := Option.some.inj hF
  refine c_ret hf (res_tmp Try.results180 hf rfl) ?_
  exact ⟨_, rfl, hw.below, ⟨_, rfl, o4.out⟩⟩
/-! f171 -/
noncomputable def slices_Concat_171_l1 (a0 : List (List Prod)) (s2 : Int) (s3 : Int) : Option (LR (Int × Int) (List Prod)) :=
  if (decide (s3 < (a0.length : Int))) = true then (if 0 ≤ s3 ∧ s3 < (a0.length : Int) then (if (decide ((w64 (s2 + ((gl [] a0 s3).length : Int))) < 0)) = true then (none) else (some (.next (w64 (s2 + ((gl [] a0 s3).length : Int)), w64 (s3 + 1))))) else none) else (some (.stop (s2, s3)))
noncomputable def slices_Concat_171_l12 (a0 : List (List Prod)) (s13 : Int) (s14 : List Prod) : Option (LR (Int × (List Prod)) (List Prod)) :=
  if (decide (s13 < (a0.length : Int))) = true then (if 0 ≤ s13 ∧ s13 < (a0.length : Int) then (if (s14.length + (gl [] a0 s13).length) * 27 ≤ 140737488355328 then (some (.next (w64 (s13 + 1), (s14 ++ gl [] a0 s13)))) else none) else none) else (some (.stop (s13, s14)))
noncomputable def slices_Concat_171 (a0 : List (List Prod)) : Option (List Prod) :=
  (iter (fun s => slices_Concat_171_l1 a0 s.1 s.2) (0, 0)).bind fun o => match o with | .stop (s2, s3) => ((slices_Grow_180_fnil s2).bind fun x8 => (iter (fun s => slices_Concat_171_l12 a0 s.1 s.2) (0, x8)).bind fun o => match o with | .stop (s13, s14) => (some (s14)) | .ret r => some r | .next _ => none) | .ret r => some r | .next _ => none
theorem slices_Concat_171_ok {w0 : World} {a0 : List (List Prod)} {va0 : Value} (h0 : Ro (Kd.slice 78 (kf cProd)) w0 va0 a0) {r : List Prod} (hF : slices_Concat_171 a0 = some r) :
    Calls Try.prog 171 [va0].toArray w0 fun e w => ∃ v, e = .returned v ∧ Below w0.heap.size w0 w ∧ ∃ u0, u0 = v ∧ Fresh (kf cProd) 78 w0 w u0 r := by
  refine calls_of (k := 36) Try.func171 rfl rfl (Nat.le_of_ble_eq_true rfl) fun a hf => ?_
  replace hf : Fr 36 a [(0, va0)] := hf
  refine c_start fun w ρ hw => ?_
  unfold slices_Concat_171 at hF
  refine c_seq <| c_region ?_
  have o1 : Ow (kf cProd) 78 ρ w w0.heap.size 1 (.slice none 0 0) [] := Ow.nil _ _ _ _ _ _
  refine s_ hf (r_assign hf rfl) fun a hf => ?_
  refine c_nt <| c_seq <| c_region ?_
  refine s_ hf (r_assign hf rfl) fun a hf => ?_
  refine c_nt <| c_seq <| c_seq <| c_region ?_
  refine s_ hf (r_move hf rfl) fun a hf => ?_
  refine s_ hf (r_len Try.underlying173 (h0.now hw) hf rfl) fun a hf => ?_
  refine s_ hf (r_move hf rfl) fun a hf => ?_
  refine c_nt ?_
  obtain ⟨ol1, ho1, hG1⟩ := of_bind hF
  clear hF
  refine c_block (c_loop (id := 0) (fun s => slices_Concat_171_l1 a0 s.1 s.2) (fun (s : Int × Int) a w => match s with | (s2, s3) => ∃ ρ, Wd w0 ρ w ∧ Fr 36 a [(0, va0), (3, vI s2), (9, va0), (10, vI (a0.length : Int)), (11, vI s3)]) (fun (s : Int × Int) a w => match s with | (s2, s3) => ∃ ρ, Wd w0 ρ w ∧ Fr 36 a [(0, va0), (3, vI s2)]) ho1 ⟨_, hw, hf.sub ⟨rfl, rfl, rfl, rfl, rfl, trivial⟩⟩ ?_ ?_)
  · rintro ⟨s2, s3⟩ lr a w ⟨ρ, hw, hf⟩ hF
    replace hF : slices_Concat_171_l1 a0 s2 s3 = some lr := hF
    unfold slices_Concat_171_l1 at hF
    refine c_seq <| c_region ?_
    refine s_ hf (r_lss hf rfl rfl) fun a hf => ?_
    refine c_nt <| c_seq ?_
    rcases of_ite hF with ⟨hb4, hF⟩ | ⟨hb4, hF⟩
    rotate_left
    · refine c_iff hf rfl hb4 <| c_exit <| x_then ?_
      obtain rfl := Option.some.inj hF
      exact Rnd.stops ⟨_, hw, hf.sub ⟨rfl, rfl, trivial⟩⟩
    refine c_ift hf rfl hb4 <| c_skip <| n_then <| c_seq <| c_block <| c_seq <| c_region ?_
    obtain ⟨hc5, hF⟩ := of_guard hF
    obtain ⟨ad6, c6, u6, he6, hl6, ho6⟩ := Ro.el_row h0 hc5.1 hc5.2
    refine s_ hf (r_idx Try.underlying173 sz26 hf rfl ⟨_, he6⟩ rfl hc5.1 hc5.2) fun a hf => ?_
    refine s_ hf (r_load_cell ty26 hf rfl (hl6.below hw.below)) fun a hf => ?_
    refine s_ hf (r_assign hf rfl) fun a hf => ?_
    refine c_nt <| c_seq <| c_region ?_
    refine s_ hf (r_move hf rfl) fun a hf => ?_
    refine s_ hf (r_move hf rfl) fun a hf => ?_
    refine s_ hf (r_len Try.underlying26 (ho6.now hw) hf rfl) fun a hf => ?_
    refine s_ hf (r_add hf rfl rfl) fun a hf => ?_
    refine s_ hf (r_assign hf rfl) fun a hf => ?_
    refine c_nt <| c_seq <| c_region ?_
    refine s_ hf (r_move hf rfl) fun a hf => ?_
    refine s_ hf (r_lss hf rfl rfl) fun a hf => ?_
    refine c_nt ?_
    rcases of_ite hF with ⟨hb7, hF⟩ | ⟨hb7, hF⟩
    · refine c_ift hf rfl hb7 <| c_region ?_
      cases hF
    refine c_iff hf rfl hb7 <| c_skip <| n_block <| n_then <| c_region ?_
    refine s_ hf (r_add hf rfl rfl) fun a hf => ?_
    refine s_ hf (r_move hf rfl) fun a hf => ?_
    refine c_nil ?_
    obtain rfl := Option.some.inj hF
    exact Rnd.goes ⟨_, hw, hf.sub ⟨rfl, rfl, rfl, rfl, rfl, trivial⟩⟩
  rintro ⟨s2, s3⟩ a w hs ⟨ρ, hw, hf⟩
  subst hs
  have hF := hG1
  dsimp only at hF
  refine x_block <| n_then <| c_seq <| c_region ?_
  refine s_ hf (r_move hf rfl) fun a hf => ?_
  obtain ⟨x8, hx9, hF⟩ := of_bind hF
  refine st_fn 2 hw hf rfl rfl (by decide) (r_fn en180 hf rfl) (slices_Grow_180_fnil_ok  hx9) fun a v w ρ hf hw hE hN hΦ => ?_
  obtain ⟨u10, rfl, hr11⟩ := hΦ
  have o2 := hN hr11
  refine s_ hf (r_assign hf rfl) fun a hf => ?_
  refine c_nt <| c_seq <| c_seq <| c_region ?_
  refine s_ hf (r_move hf rfl) fun a hf => ?_
  refine s_ hf (r_len Try.underlying173 (h0.now hw) hf rfl) fun a hf => ?_
  refine s_ hf (r_move hf rfl) fun a hf => ?_
  refine c_nt ?_
  obtain ⟨ol12, ho12, hG12⟩ := of_bind hF
  clear hF
  refine c_block (c_loop (id := 2) (fun s => slices_Concat_171_l12 a0 s.1 s.2) (fun (s : Int × (List Prod)) a w => match s with | (s13, s14) => ∃ ρ v15, Wd w0 ρ w ∧ Fr 36 a [(6, v15), (25, va0), (26, vI (a0.length : Int)), (27, vI s13)] ∧ O78 ρ w w0 2 v15 s14) (fun (s : Int × (List Prod)) a w => match s with | (s13, s14) => ∃ ρ v15, Wd w0 ρ w ∧ Fr 36 a [(6, v15)] ∧ O78 ρ w w0 2 v15 s14) ho12 ⟨_, _, hw, hf.sub ⟨rfl, rfl, rfl, rfl, trivial⟩, o2⟩ ?_ ?_)
  · rintro ⟨s13, s14⟩ lr a w ⟨ρ, v15, hw, hf, o2⟩ hF
    replace hF : slices_Concat_171_l12 a0 s13 s14 = some lr := hF
    unfold slices_Concat_171_l12 at hF
    refine c_seq <| c_region ?_
    refine s_ hf (r_lss hf rfl rfl) fun a hf => ?_
    refine c_nt <| c_seq ?_
    rcases of_ite hF with ⟨hb16, hF⟩ | ⟨hb16, hF⟩
    rotate_left
    · refine c_iff hf rfl hb16 <| c_exit <| x_then ?_
      obtain rfl := Option.some.inj hF
      exact Rnd.stops ⟨_, _, hw, hf.sub ⟨rfl, trivial⟩, o2⟩
    refine c_ift hf rfl hb16 <| c_skip <| n_then <| c_seq <| c_block <| c_seq <| c_region ?_
    obtain ⟨hc17, hF⟩ := of_guard hF
    obtain ⟨ad18, c18, u18, he18, hl18, ho18⟩ := Ro.el_row h0 hc17.1 hc17.2
    refine s_ hf (r_idx Try.underlying173 sz26 hf rfl ⟨_, he18⟩ rfl hc17.1 hc17.2) fun a hf => ?_
    refine s_ hf (r_load_cell ty26 hf rfl (hl18.below hw.below)) fun a hf => ?_
    refine s_ hf (r_assign hf rfl) fun a hf => ?_
    refine c_nt <| c_region ?_
    refine s_ hf (r_move hf rfl) fun a hf => ?_
    refine s_ hf (r_move hf rfl) fun a hf => ?_
    obtain ⟨hc19, hF⟩ := of_guard hF
    refine sx_ hf (r_append Try.underlying26 el78 hw (by decide) o2 (ho18.now hw) hc19 hf rfl rfl) fun a va20 w hf hΦ => ?_
    obtain ⟨ρ, hw, hA, o2⟩ := hΦ
    refine s_ hf (r_assign hf rfl) fun a hf => ?_
    refine c_nil <| n_block <| n_then <| c_region ?_
    refine s_ hf (r_add hf rfl rfl) fun a hf => ?_
    refine s_ hf (r_move hf rfl) fun a hf => ?_
    refine c_nil ?_
    obtain rfl := Option.some.inj hF
    exact Rnd.goes ⟨_, _, hw, hf.sub ⟨rfl, rfl, rfl, rfl, trivial⟩, o2⟩
  rintro ⟨s13, s14⟩ a w hs ⟨ρ, v15, hw, hf, o2⟩
  subst hs
  have hF := hG12
  dsimp only at hF
  refine x_block <| n_then <| c_seq <| c_region ?_
  refine s_ hf (r_move hf rfl) fun a hf => ?_
  refine s_ hf (r_assign hf rfl) fun a hf => ?_
  refine c_nt <| c_retc ?_
  obtain rfl := Option.some.inj hF
  refine c_ret hf (res_tmp Try.results171 hf rfl) ?_
  exact ⟨_, rfl, hw.below, ⟨_, rfl, o2.out⟩⟩
/-! f151 -/
noncomputable def impl_withoutAt (a0 : List Prod) (a1 : Int) : Option (List Prod) :=
  if (0 : Int) ≤ a1 ∧ a1 ≤ (a0.length : Int) then (if 0 ≤ w64 (a1 + 1) ∧ w64 (a1 + 1) ≤ (a0.length : Int) then ((slices_Concat_171 ([((a0.take a1.toNat).drop (0 : Int).toNat), ((a0.take (a0.length : Int).toNat).drop (w64 (a1 + 1)).toNat)] : List (List Prod))).bind fun x5 => some (x5)) else none) else none
theorem impl_withoutAt_ok {w0 : World} {a0 : List Prod} {a1 : Int} {va0 : Value} (h0 : Ro (kf cProd) w0 va0 a0) {r : List Prod} (hF : impl_withoutAt a0 a1 = some r) :
    Calls Try.prog 151 [va0, vI a1].toArray w0 fun e w => ∃ v, e = .returned v ∧ Below w0.heap.size w0 w ∧ ∃ u0, u0 = v ∧ Fresh (kf cProd) 78 w0 w u0 r := by
  refine calls_of (k := 14) Try.func151 rfl rfl (Nat.le_of_ble_eq_true rfl) fun a hf => ?_
  replace hf : Fr 14 a [(0, va0), (1, vI a1)] := hf
  refine c_start fun w ρ hw => ?_
  unfold impl_withoutAt at hF
  refine c_seq <| c_region ?_
  have o1 : Ow (kf cProd) 78 ρ w w0.heap.size 1 (.slice none 0 0) [] := Ow.nil _ _ _ _ _ _
  refine s_ hf (r_assign hf rfl) fun a hf => ?_
  refine c_nt <| c_seq ?_
  obtain ⟨hc1, hF⟩ := of_guard hF
  have hq2 : Ro (kf cProd) w0 (cutV va0 (0 : Int).toNat a1.toNat 27) ((a0.take a1.toNat).drop (0 : Int).toNat) := ro_cutV h0 (Int.le_refl 0) hc1.1 hc1.2
  obtain ⟨hc3, hF⟩ := of_guard hF
  have hq4 : Ro (kf cProd) w0 (cutV va0 (w64 (a1 + 1)).toNat (a0.length : Int).toNat 27) ((a0.take (a0.length : Int).toNat).drop (w64 (a1 + 1)).toNat) := ro_cutV h0 hc3.1 hc3.2 (Int.le_refl _)
  replace hf : Fr 14 a [(0, va0), (1, vI a1)] := hf.sub ⟨rfl, rfl, trivial⟩
  refine c_drawL (h := 7) mixed (by kernel_rfl) (by kernel_rfl) (fun ρ w => True) ?_ [fun ρ w v => va0 = v, fun ρ w v => vI a1 = v, fun ρ w v => (cutV va0 (0 : Int).toNat a1.toNat 27) = v, fun ρ w v => va0 = v, fun ρ w v => vI a1 = v, fun ρ w v => vI (w64 (a1 + 1)) = v, fun ρ w v => (cutV va0 (w64 (a1 + 1)).toNat (a0.length : Int).toNat 27) = v] ?_ hw trivial hf ?_ ?_
  · intro ρ w ρ' w' hE hG
    skip
    exact trivial
  · exact LastsL.cons (fun _ _ _ _ _ _ h => h) <| LastsL.cons (fun _ _ _ _ _ _ h => h) <| LastsL.cons (fun _ _ _ _ _ _ h => h) <| LastsL.cons (fun _ _ _ _ _ _ h => h) <| LastsL.cons (fun _ _ _ _ _ _ h => h) <| LastsL.cons (fun _ _ _ _ _ _ h => h) <| LastsL.cons (fun _ _ _ _ _ _ h => h) <| LastsL.nil
  · refine StepsB.cons ?_ <| StepsB.cons ?_ <| StepsB.cons ?_ <| StepsB.cons ?_ <| StepsB.cons ?_ <| StepsB.cons ?_ <| StepsB.cons ?_ <| StepsB.nil
    · intro ρ w a hw hG hf hd K hK
      exact dv_ hK hw (wn rfl) (r_move hf rfl) rfl
    · intro ρ w a hw hG hf hd K hK
      exact dv_ hK hw (wn rfl) (r_move hf rfl) rfl
    · intro ρ w a hw hG hf hd K hK
      obtain ⟨_, hf, rfl⟩ := got (hd 0 (by kernel_rfl)) hf
      obtain ⟨_, hf, rfl⟩ := got (hd 1 (by kernel_rfl)) hf
      exact dv_ hK hw (wn rfl) (r_cut_v (lo := 0) (hi := a1) Try.underlying26 sz78 rfl (h0.now hw) hf rfl (.inl ⟨rfl, rfl⟩) (.inr ⟨_, rfl, rfl⟩) (Int.le_refl 0) hc1.1 hc1.2) rfl
    · intro ρ w a hw hG hf hd K hK
      exact dv_ hK hw (wn rfl) (r_move hf rfl) rfl
    · intro ρ w a hw hG hf hd K hK
      exact dv_ hK hw (wn rfl) (r_move hf rfl) rfl
    · intro ρ w a hw hG hf hd K hK
      obtain ⟨_, hf, rfl⟩ := got (hd 4 (by kernel_rfl)) hf
      exact dv_ hK hw (wn rfl) (r_add hf rfl rfl) rfl
    · intro ρ w a hw hG hf hd K hK
      obtain ⟨_, hf, rfl⟩ := got (hd 3 (by kernel_rfl)) hf
      obtain ⟨_, hf, rfl⟩ := got (hd 5 (by kernel_rfl)) hf
      exact dv_ hK hw (wn rfl) (r_cut_v (lo := w64 (a1 + 1)) (hi := (a0.length : Int)) Try.underlying26 sz78 rfl (h0.now hw) hf rfl (.inr ⟨_, rfl, rfl⟩) (.inl ⟨rfl, rfl⟩) hc3.1 hc3.2 (Int.le_refl _)) rfl
  intro ρ w a hw hG hf hd
  obtain ⟨_, hf, rfl⟩ := got (hd 2 (by decide)) hf
  obtain ⟨_, hf, rfl⟩ := got (hd 6 (by decide)) hf
  refine sx_ hf (r_lit_ro (d := (Kd.slice 78 (kf cProd))) (m := 1) (xs := ([((a0.take a1.toNat).drop (0 : Int).toNat), ((a0.take (a0.length : Int).toNat).drop (w64 (a1 + 1)).toNat)] : List (List Prod))) (raws := [⟨[(cutV va0 (0 : Int).toNat a1.toNat 27)], rfl, one_one (hq2.now hw).one⟩, ⟨[(cutV va0 (w64 (a1 + 1)).toNat (a0.length : Int).toNat 27)], rfl, one_one (hq4.now hw).one⟩]) (vs := [(cutV va0 (0 : Int).toNat a1.toNat 27), (cutV va0 (w64 (a1 + 1)).toNat (a0.length : Int).toNat 27)]) rfl Try.underlying173 el26 (Nat.le_of_ble_eq_true rfl) (Nat.le_of_ble_eq_true rfl) hw hf rfl rfl (cl2 (hq2.now hw).cells1 (cl2 (hq4.now hw).cells1 rfl)) ⟨(hq2.now hw).K 78, ⟨(hq4.now hw).K 78, trivial⟩⟩) fun a v2 w hf hΦ => ?_
  obtain ⟨ρ, hw, hE, o2⟩ := hΦ
  obtain ⟨x5, hx6, hF⟩ := of_bind hF
  refine st_fn 3 hw hf rfl rfl (by decide) (r_fn en171 hf rfl) (slices_Concat_171_ok o2 hx6) fun a v w ρ hf hw hE hN hΦ => ?_
  obtain ⟨u7, rfl, hr8⟩ := hΦ
  replace o2 := o2.ext hE
  have o3 := hN hr8
  refine s_ hf (r_assign hf rfl) fun a hf => ?_
  refine c_nt <| c_retc ?_
  obtain rfl := Option.some.inj hF
  refine c_ret hf (res_tmp Try.results151 hf rfl) ?_
  exact ⟨_, rfl, hw.below, ⟨_, rfl, o3.out⟩⟩
/-! f114 -/
noncomputable def impl_reduceOnce_l6 (a0 : Int) (a1 : List Prod) (s2 : Int) (s7 : Int) : Option (LR Int (List Prod × Bool)) :=
  if (decide (s7 < (a1.length : Int))) = true then (if 0 ≤ s7 ∧ s7 < (a1.length : Int) then ((impl_merged a0 (gl zProd a1 s2) (gl zProd a1 s7)).bind fun x11 => if (!x11.2) = true then (some (.next (w64 (s7 + 1)))) else ((impl_withoutAt a1 s7).bind fun x14 => (impl_hasZero x11.1).bind fun x18 => if x18 = true then ((impl_withoutAt x14 s2).bind fun x21 => some (.ret (x21, true))) else ((impl_normal a0 x11.1).bind fun x25 => if 0 ≤ s2 ∧ s2 < (x14.length : Int) then (some (.ret ((x14.set s2.toNat x25), true))) else none))) else none) else (some (.stop s7))
noncomputable def impl_reduceOnce_l1 (a0 : Int) (a1 : List Prod) (s2 : Int) : Option (LR Int (List Prod × Bool)) :=
  if (decide (s2 < (a1.length : Int))) = true then (if 0 ≤ s2 ∧ s2 < (a1.length : Int) then ((iter (fun s => impl_reduceOnce_l6 a0 a1 s2 s) (w64 (s2 + 1))).bind fun o => match o with | .stop s7 => (some (.next (w64 (s2 + 1)))) | .ret r => some (.ret r) | .next _ => none) else none) else (some (.stop s2))
noncomputable def impl_reduceOnce (a0 : Int) (a1 : List Prod) : Option (List Prod × Bool) :=
  (iter (fun s => impl_reduceOnce_l1 a0 a1 s) 0).bind fun o => match o with | .stop s2 => (some ((a1, false))) | .ret r => some r | .next _ => none
theorem impl_reduceOnce_ok {w0 ws : World} {ρ0 : Nat → Nat} {i : Nat} (hi : i ≠ 0) (hW : Wd w0 ρ0 ws) {a0 : Int} {a1 : List Prod} {va1 : Value} (h1 : Ow (kf cProd) 78 ρ0 ws w0.heap.size i va1 a1) {r : List Prod × Bool} (hF : impl_reduceOnce a0 a1 = some r) :
    Calls Try.prog 114 [vI a0, va1].toArray ws fun e w => ∃ v, e = .returned v ∧ ∃ ρ', Wd w0 ρ' w ∧ Adv i ρ0 ws ρ' w ∧ ∃ u0, .tuple #[u0, .bool r.2] = v ∧ Ow (kf cProd) 78 ρ' w w0.heap.size i u0 r.1 := by
  refine calls_of (k := 55) Try.func114 rfl rfl (Nat.le_of_ble_eq_true rfl) fun a hf => ?_
  replace hf : Fr 55 a [(0, vI a0), (1, va1)] := hf
  refine c_startm hi hW h1 fun w ρ hw oA o1 => ?_
  unfold impl_reduceOnce at hF
  refine c_seq <| c_region ?_
  have o2 : Ow (kf cProd) 78 ρ w w0.heap.size 2 (.slice none 0 0) [] := Ow.nil _ _ _ _ _ _
  refine s_ hf (r_assign hf rfl) fun a hf => ?_
  refine s_ hf (r_assign hf rfl) fun a hf => ?_
  refine c_nt <| c_seq <| c_seq <| c_region ?_
  refine s_ hf (r_move hf rfl) fun a hf => ?_
  refine s_ hf (r_len Try.underlying26 o1.ro hf rfl) fun a hf => ?_
  refine s_ hf (r_move hf rfl) fun a hf => ?_
  refine c_nt ?_
  obtain ⟨ol1, ho1, hG1⟩ := of_bind hF
  clear hF
  refine c_block (c_loop (id := 0) (fun s => impl_reduceOnce_l1 a0 a1 s) (fun (s2 : Int) a w => ∃ ρ, Wd w0 ρ w ∧ Fr 55 a [(0, vI a0), (1, va1), (11, va1), (12, vI (a1.length : Int)), (13, vI s2)] ∧ Old (oneOf ρ0 i) ws ρ w ∧ O78 ρ w w0 1 va1 a1) (fun (s2 : Int) a w => ∃ ρ, Wd w0 ρ w ∧ Fr 55 a [(1, va1)] ∧ Old (oneOf ρ0 i) ws ρ w ∧ O78 ρ w w0 1 va1 a1) ho1 ⟨_, hw, hf.sub ⟨rfl, rfl, rfl, rfl, rfl, trivial⟩, oA, o1⟩ ?_ ?_)
  · rintro s2 lr a w ⟨ρ, hw, hf, oA, o1⟩ hF
    replace hF : impl_reduceOnce_l1 a0 a1 s2 = some lr := hF
    unfold impl_reduceOnce_l1 at hF
    refine c_seq <| c_region ?_
    refine s_ hf (r_lss hf rfl rfl) fun a hf => ?_
    refine c_nt <| c_seq ?_
    rcases of_ite hF with ⟨hb3, hF⟩ | ⟨hb3, hF⟩
    rotate_left
    · refine c_iff hf rfl hb3 <| c_exit <| x_then ?_
      obtain rfl := Option.some.inj hF
      exact Rnd.stops ⟨_, hw, hf.sub ⟨rfl, trivial⟩, oA, o1⟩
    refine c_ift hf rfl hb3 <| c_skip <| n_then <| c_seq <| c_block <| c_seq <| c_region ?_
    refine s_ hf (r_move hf rfl) fun a hf => ?_
    obtain ⟨hc4, hF⟩ := of_guard hF
    obtain ⟨ad5, hl5⟩ := Ow.ce (d := cProd) o1 zProd hc4.1 hc4.2
    refine s_ hf (r_idx Try.underlying26 sz78 hf rfl hl5.at_ rfl hc4.1 hc4.2) fun a hf => ?_
    refine s_ hf (r_load_agg ty78 hf rfl hl5.co.cl (cProd.len _)) fun a hf => ?_
    refine sx_ hf (r_alloc (cs := cProd.enc zProd) 4 ze78 rfl hw) fun a v w hf hΦ => ?_
    obtain ⟨g4, ρ, rfl, hw, hE, o4⟩ := hΦ
    replace oA := oA.ext hE
    replace o1 := o1.ext hE
    replace hl5 := hl5.ext hE
    refine s_ hf (r_assign hf rfl) fun a hf => ?_
    refine sk_ hf (r_store_w (cs' := cProd.enc (gl zProd a1 s2)) hw o4 (by decide) ty78 (cProd.len _) (cProd.len _) (cProd.one _) hf rfl rfl rfl) fun a w hf hΦ => ?_
    obtain ⟨hw, hA, o4⟩ := hΦ
    replace oA := oA.adv hA (by decide)
    replace o1 := o1.adv hA (by decide)
    replace hl5 := hl5.adv hA (by decide)
    refine c_nt <| c_seq <| c_region ?_
    refine s_ hf (r_move hf rfl) fun a hf => ?_
    refine s_ hf (r_add hf rfl rfl) fun a hf => ?_
    refine s_ hf (r_assign hf rfl) fun a hf => ?_
    refine c_nt ?_
    obtain ⟨ol6, ho6, hG6⟩ := of_bind hF
    clear hF
    refine c_block (c_loop (id := 2) (fun s => impl_reduceOnce_l6 a0 a1 s2 s) (fun (s7 : Int) a w => ∃ ρ, Wd w0 ρ w ∧ Fr 55 a [(0, vI a0), (1, va1), (6, vI s2), (7, .pointer (some ((⟨g4, 0, none⟩ : Addr).add 0))), (8, vI s7), (11, va1), (12, vI (a1.length : Int)), (13, vI s2)] ∧ Old (oneOf ρ0 i) ws ρ w ∧ O78 ρ w w0 1 va1 a1 ∧ Va ρ w 4 g4 78 (cProd.enc (gl zProd a1 s2))) (fun (s7 : Int) a w => ∃ ρ, Wd w0 ρ w ∧ Fr 55 a [(0, vI a0), (1, va1), (11, va1), (12, vI (a1.length : Int)), (13, vI s2)] ∧ Old (oneOf ρ0 i) ws ρ w ∧ O78 ρ w w0 1 va1 a1) ho6 ⟨_, hw, hf.sub ⟨rfl, rfl, rfl, rfl, rfl, rfl, rfl, rfl, trivial⟩, oA, o1, o4⟩ ?_ ?_)
    · rintro s7 lr a w ⟨ρ, hw, hf, oA, o1, o4⟩ hF
      replace hF : impl_reduceOnce_l6 a0 a1 s2 s7 = some lr := hF
      unfold impl_reduceOnce_l6 at hF
      refine c_seq <| c_seq <| c_region ?_
      refine s_ hf (r_move hf rfl) fun a hf => ?_
      refine s_ hf (r_move hf rfl) fun a hf => ?_
      refine s_ hf (r_len Try.underlying26 o1.ro hf rfl) fun a hf => ?_
      refine s_ hf (r_lss hf rfl rfl) fun a hf => ?_
      refine c_nt ?_
      rcases of_ite hF with ⟨hb8, hF⟩ | ⟨hb8, hF⟩
      rotate_left
      · refine c_iff hf rfl hb8 <| c_exit <| x_then ?_
        obtain rfl := Option.some.inj hF
        exact Rnd.stops ⟨_, hw, hf.sub ⟨rfl, rfl, rfl, rfl, rfl, trivial⟩, oA, o1⟩
      refine c_ift hf rfl hb8 <| c_skip <| n_then <| c_seq <| c_block <| c_seq ?_
      obtain ⟨hc9, hF⟩ := of_guard hF
      obtain ⟨x11, hx12, hF⟩ := of_bind hF
      replace hf : Fr 55 a [(0, vI a0), (1, va1), (6, vI s2), (7, .pointer (some ((⟨g4, 0, none⟩ : Addr).add 0))), (8, vI s7), (11, va1), (12, vI (a1.length : Int)), (13, vI s2)] := hf.sub ⟨rfl, rfl, rfl, rfl, rfl, rfl, rfl, rfl, trivial⟩
      refine c_stage 12 [11] mixed (by kernel_rfl) (by kernel_rfl) (fun c ρ w => Old (oneOf ρ0 i) ws ρ w ∧ O78 ρ w w0 1 va1 a1 ∧ Va ρ w 4 g4 78 (cProd.enc (gl zProd a1 s2))) ?_ [fun c ρ w v => vI a0 = v, fun c ρ w v => .agg (cProd.enc (gl zProd a1 s2)).toArray = v, fun c ρ w v => va1 = v, fun c ρ w v => vI s7 = v, fun c ρ w v => ∃ ad10, .pointer (some (ad10.add (s7.toNat * 27))) = v ∧ Ce ρ w 1 va1 a1.length ad10 (s7.toNat * 27) (cProd.enc (gl zProd a1 s7)), fun c ρ w v => .agg (cProd.enc (gl zProd a1 s7)).toArray = v, fun c ρ w v => .tuple #[.agg (cProd.enc x11.1).toArray, .bool x11.2] = v, fun c ρ w v => .tuple #[.agg (cProd.enc x11.1).toArray, .bool x11.2] = v, fun c ρ w v => .agg (cProd.enc x11.1).toArray = v, fun c ρ w v => .bool x11.2 = v, fun c ρ w v => ∃ g7, .pointer (some ((⟨g7, 0, none⟩ : Addr).add 0)) = v ∧ (c ≤ 0 → Va ρ w 7 g7 78 (cProd.enc zProd)) ∧ (0 < c → Va ρ w 7 g7 78 (cProd.enc x11.1)), fun _ _ _ _ => True] ?_ hw ⟨oA, o1, o4⟩ hf ?_ ?_
      · intro c ρ w ρ' w' hE hG
        obtain ⟨oA, o1, o4⟩ := hG
        exact ⟨oA.ext hE, o1.ext hE, o4.ext hE⟩
      · exact LastsS.cons (fun _ _ _ _ _ _ _ h => h) <| LastsS.cons (fun _ _ _ _ _ _ _ h => h) <| LastsS.cons (fun _ _ _ _ _ _ _ h => h) <| LastsS.cons (fun _ _ _ _ _ _ _ h => h) <| LastsS.cons (fun c _ _ _ _ _ hE h => by obtain ⟨ad10, h, hl10⟩ := h; exact ⟨_, h, hl10.ext hE⟩) <| LastsS.cons (fun _ _ _ _ _ _ _ h => h) <| LastsS.cons (fun _ _ _ _ _ _ _ h => h) <| LastsS.cons (fun _ _ _ _ _ _ _ h => h) <| LastsS.cons (fun _ _ _ _ _ _ _ h => h) <| LastsS.cons (fun _ _ _ _ _ _ _ h => h) <| LastsS.cons (fun c _ _ _ _ _ hE h => by obtain ⟨g7, h, hx, hy⟩ := h; exact ⟨_, h, fun h => (hx h).ext hE, (fun h => by obtain o7 := hy h; exact o7.ext hE)⟩) <| LastsS.cons (fun _ _ _ _ _ _ _ h => h) <| LastsS.nil
      · refine StepsS.float rfl ?_ <| StepsS.float rfl ?_ <| StepsS.float rfl ?_ <| StepsS.float rfl ?_ <| StepsS.float rfl ?_ <| StepsS.float rfl ?_ <| StepsS.float rfl ?_ <| StepsS.float rfl ?_ <| StepsS.float rfl ?_ <| StepsS.float rfl ?_ <| StepsS.float rfl ?_ <| StepsS.main 0 rfl rfl ?_ <| StepsS.nil
        · intro c ρ w a hs hw hG hf hd K hK
          obtain ⟨oA, o1, o4⟩ := hG
          exact dv_ hK hw (wn rfl) (r_move hf rfl) rfl
        · intro c ρ w a hs hw hG hf hd K hK
          obtain ⟨oA, o1, o4⟩ := hG
          exact dv_ hK hw (wn rfl) (r_load_agg ty78 hf rfl o4.cl (cProd.len _)) rfl
        · intro c ρ w a hs hw hG hf hd K hK
          obtain ⟨oA, o1, o4⟩ := hG
          exact dv_ hK hw (wn rfl) (r_move hf rfl) rfl
        · intro c ρ w a hs hw hG hf hd K hK
          obtain ⟨oA, o1, o4⟩ := hG
          exact dv_ hK hw (wn rfl) (r_move hf rfl) rfl
        · intro c ρ w a hs hw hG hf hd K hK
          obtain ⟨oA, o1, o4⟩ := hG
          obtain ⟨_, ht2, rfl⟩ := hd 2 (by kernel_rfl) (by kernel_rfl)
          replace hf := hf.more ht2
          obtain ⟨_, ht3, rfl⟩ := hd 3 (by kernel_rfl) (by kernel_rfl)
          replace hf := hf.more ht3
          obtain ⟨ad10, hl10⟩ := Ow.ce (d := cProd) o1 zProd hc9.1 hc9.2
          exact dv_ hK hw (wn rfl) (r_idx Try.underlying26 sz78 hf rfl hl10.at_ rfl hc9.1 hc9.2) (ex_ <| an_ rfl <| hl10)
        · intro c ρ w a hs hw hG hf hd K hK
          obtain ⟨oA, o1, o4⟩ := hG
          obtain ⟨_, ht4, ⟨ad10, rfl, hl10⟩⟩ := hd 4 (by kernel_rfl) (by kernel_rfl)
          replace hf := hf.more ht4
          exact dv_ hK hw (wn rfl) (r_load_agg ty78 hf rfl hl10.co.cl (cProd.len _)) rfl
        · intro c ρ w a hs hw hG hf hd K hK
          obtain ⟨oA, o1, o4⟩ := hG
          obtain ⟨_, ht0, rfl⟩ := hd 0 (by kernel_rfl) (by kernel_rfl)
          replace hf := hf.more ht0
          obtain ⟨_, ht1, rfl⟩ := hd 1 (by kernel_rfl) (by kernel_rfl)
          replace hf := hf.more ht1
          obtain ⟨_, ht5, rfl⟩ := hd 5 (by kernel_rfl) (by kernel_rfl)
          replace hf := hf.more ht5
          refine dc_ hK hw (wn rfl) (r_fn en150 hf rfl) (impl_merged_ok  hx12) fun v w' hΦ => ?_
          obtain ⟨hb, hΦ⟩ := hΦ
          obtain rfl := hΦ
          have hE := Ext.new (ρ := ρ) 6 hb
          exact ⟨_, hw.new 6 hb, hE, rfl⟩
        · intro c ρ w a hs hw hG hf hd K hK
          obtain ⟨oA, o1, o4⟩ := hG
          obtain ⟨_, ht6, rfl⟩ := hd 6 (by kernel_rfl) (by kernel_rfl)
          replace hf := hf.more ht6
          exact dv_ hK hw (wn rfl) (r_move hf rfl) rfl
        · intro c ρ w a hs hw hG hf hd K hK
          obtain ⟨oA, o1, o4⟩ := hG
          obtain ⟨_, ht7, rfl⟩ := hd 7 (by kernel_rfl) (by kernel_rfl)
          replace hf := hf.more ht7
          exact dv_ hK hw (wn rfl) (r_extract hf rfl rfl) rfl
        · intro c ρ w a hs hw hG hf hd K hK
          obtain ⟨oA, o1, o4⟩ := hG
          obtain ⟨_, ht7, rfl⟩ := hd 7 (by kernel_rfl) (by kernel_rfl)
          replace hf := hf.more ht7
          exact dv_ hK hw (wn rfl) (r_extract hf rfl rfl) rfl
        · intro c ρ w a hs hw hG hf hd K hK
          obtain ⟨oA, o1, o4⟩ := hG
          refine dx_ hK hw (wn rfl) (r_alloc (cs := cProd.enc zProd) 7 ze78 rfl hw) fun v w' hΦ => ?_
          obtain ⟨g7, ρ, rfl, hw, hE, o7⟩ := hΦ
          exact ⟨_, hw, hE, ex_ <| an_ rfl <| an_ (fun _ => o7) <| fun hc => absurd (hs 0 (by decide) (by kernel_rfl)) (Nat.not_le_of_lt hc)⟩
        · intro ρ w a S hw hG hf hS hdep hSi K hK
          obtain ⟨oA, o1, o4⟩ := hG
          have hfL := hf
          obtain ⟨_, ht8, rfl⟩ := hS 8 (by decide) (hdep 8 (by kernel_rfl)) (by kernel_rfl)
          replace hf := hf.more ht8
          obtain ⟨_, ht10, g7, rfl, hx10, hy10⟩ := hS 10 (by decide) (hdep 10 (by kernel_rfl)) (by kernel_rfl)
          have o7 := hx10 (by decide)
          replace hf := hf.more ht10
          refine m_skip (Γ := fun c ρ w => Old (oneOf ρ0 i) ws ρ w ∧ O78 ρ w w0 1 va1 a1 ∧ Va ρ w 4 g4 78 (cProd.enc (gl zProd a1 s2))) (Rl := [fun c ρ w v => vI a0 = v, fun c ρ w v => .agg (cProd.enc (gl zProd a1 s2)).toArray = v, fun c ρ w v => va1 = v, fun c ρ w v => vI s7 = v, fun c ρ w v => ∃ ad10, .pointer (some (ad10.add (s7.toNat * 27))) = v ∧ Ce ρ w 1 va1 a1.length ad10 (s7.toNat * 27) (cProd.enc (gl zProd a1 s7)), fun c ρ w v => .agg (cProd.enc (gl zProd a1 s7)).toArray = v, fun c ρ w v => .tuple #[.agg (cProd.enc x11.1).toArray, .bool x11.2] = v, fun c ρ w v => .tuple #[.agg (cProd.enc x11.1).toArray, .bool x11.2] = v, fun c ρ w v => .agg (cProd.enc x11.1).toArray = v, fun c ρ w v => .bool x11.2 = v, fun c ρ w v => ∃ g7, .pointer (some ((⟨g7, 0, none⟩ : Addr).add 0)) = v ∧ (c ≤ 0 → Va ρ w 7 g7 78 (cProd.enc zProd)) ∧ (0 < c → Va ρ w 7 g7 78 (cProd.enc x11.1)), fun _ _ _ _ => True]) hfL hS (by kernel_rfl) rfl (wn rfl) (r_store_w (cs' := cProd.enc x11.1) hw o7 (by decide) ty78 (cProd.len _) (cProd.len _) (cProd.one _) hf rfl rfl rfl) (fun w' hΦ => ?_) hK
          obtain ⟨hw, hA, o7⟩ := hΦ
          replace oA := oA.adv hA (by decide)
          replace o1 := o1.adv hA (by decide)
          replace o4 := o4.adv hA (by decide)
          refine ⟨_, hw, ⟨oA, o1, o4⟩, ?_⟩
          · exact PassL.cons (fun h => h) <| PassL.cons (fun h => h) <| PassL.cons (fun h => h) <| PassL.cons (fun h => h) <| PassL.cons (fun h => by obtain ⟨_, ht, ad10, h, hl10⟩ := h; exact ⟨_, ht, _, h, hl10.adv hA (by decide)⟩) <| PassL.cons (fun h => h) <| PassL.cons (fun h => h) <| PassL.cons (fun h => h) <| PassL.cons (fun h => h) <| PassL.cons (fun h => h) <| PassL.cons (fun _ => ⟨_, ht10, _, rfl, fun h => absurd h (by decide), fun _ => o7⟩) <| PassL.here <| PassL.nil
      intro ρ w a hw hG hf hd
      obtain ⟨oA, o1, o4⟩ := hG
      obtain ⟨_, hf, rfl⟩ := got (hd 9 (by decide) (by kernel_rfl)) hf
      obtain ⟨_, ht, g7, rfl, hx, hy⟩ := hd 10 (by decide) (by kernel_rfl)
      obtain o7 := hy (by decide)
      replace hf := hf.more ht
      refine s_ hf (r_assign hf rfl) fun a hf => ?_
      refine c_nt <| c_seq <| c_seq <| c_region ?_
      refine s_ hf (r_move hf rfl) fun a hf => ?_
      refine s_ hf (r_not hf rfl) fun a hf => ?_
      refine c_nt ?_
      rcases of_ite hF with ⟨hb13, hF⟩ | ⟨hb13, hF⟩
      · refine c_ift hf rfl hb13 <| c_exit <| x_then <| x_block <| n_then <| c_region ?_
        refine s_ hf (r_move hf rfl) fun a hf => ?_
        refine s_ hf (r_add hf rfl rfl) fun a hf => ?_
        refine s_ hf (r_assign hf rfl) fun a hf => ?_
        refine c_nil ?_
        obtain rfl := Option.some.inj hF
        exact Rnd.goes ⟨_, hw, hf.sub ⟨rfl, rfl, rfl, rfl, rfl, rfl, rfl, rfl, trivial⟩, oA, o1, o4⟩
      refine c_iff hf rfl hb13 <| c_skip <| n_then <| c_seq <| c_region ?_
      refine s_ hf (r_move hf rfl) fun a hf => ?_
      refine s_ hf (r_move hf rfl) fun a hf => ?_
      obtain ⟨x14, hx15, hF⟩ := of_bind hF
      refine st_fn 8 hw hf rfl rfl (by decide) (r_fn en151 hf rfl) (impl_withoutAt_ok o1.ro hx15) fun a v w ρ hf hw hE hN hΦ => ?_
      obtain ⟨u16, rfl, hr17⟩ := hΦ
      replace oA := oA.ext hE
      replace o1 := o1.ext hE
      replace o4 := o4.ext hE
      replace o7 := o7.ext hE
      have o8 := hN hr17
      refine s_ hf (r_assign hf rfl) fun a hf => ?_
      refine c_nt <| c_seq <| c_seq <| c_region ?_
      refine s_ hf (r_load_agg ty78 hf rfl o7.cl (cProd.len _)) fun a hf => ?_
      obtain ⟨x18, hx19, hF⟩ := of_bind hF
      refine st_fn 9 hw hf rfl rfl (by decide) (r_fn en133 hf rfl) (impl_hasZero_ok  hx19) fun a v w ρ hf hw hE hN hΦ => ?_
      obtain rfl := hΦ
      replace oA := oA.ext hE
      replace o1 := o1.ext hE
      replace o4 := o4.ext hE
      replace o7 := o7.ext hE
      replace o8 := o8.ext hE
      refine c_nt ?_
      rcases of_ite hF with ⟨hb20, hF⟩ | ⟨hb20, hF⟩
      · refine c_ift hf rfl hb20 <| c_seq <| c_region ?_
        refine s_ hf (r_move hf rfl) fun a hf => ?_
        refine s_ hf (r_move hf rfl) fun a hf => ?_
        obtain ⟨x21, hx22, hF⟩ := of_bind hF
        refine st_fn 10 hw hf rfl rfl (by decide) (r_fn en151 hf rfl) (impl_withoutAt_ok o8.ro hx22) fun a v w ρ hf hw hE hN hΦ => ?_
        obtain ⟨u23, rfl, hr24⟩ := hΦ
        replace oA := oA.ext hE
        replace o1 := o1.ext hE
        replace o4 := o4.ext hE
        replace o7 := o7.ext hE
        replace o8 := o8.ext hE
        have o10 := hN hr24
        refine s_ hf (r_assign hf rfl) fun a hf => ?_
        refine s_ hf (r_assign hf rfl) fun a hf => ?_
        refine c_nt <| c_retc ?_
        obtain rfl := Option.some.inj hF
        replace oA := oA.relab (j := 10) (fun k _ => oneOf_ne (by decide) k) 1
        replace o4 := o4.tr (Tr.relab (j := 10) (b := 1) (by decide))
        replace o7 := o7.tr (Tr.relab (j := 10) (b := 1) (by decide))
        replace o8 := o8.tr (Tr.relab (j := 10) (b := 1) (by decide))
        replace o10 := o10.relab 1
        replace hw := hw.relab (j := 10) (by decide) 1
        refine r_then <| r_block <| r_then ?_
        refine Rnd.rets fun ho => ?_
        subst ho
        have hF := hG6
        dsimp only at hF
        obtain rfl := Option.some.inj hF
        refine r_block <| r_block <| r_then ?_
        refine Rnd.rets fun ho => ?_
        subst ho
        have hF := hG1
        dsimp only at hF
        obtain rfl := Option.some.inj hF
        refine r_block <| r_then <| c_ret hf (res_tt Try.results114 hf rfl rfl) ?_
        exact ⟨_, rfl, _, m_wd hW hw oA, m_adv oA, _, rfl, m_ow oA o10⟩
      refine c_iff hf rfl hb20 <| c_skip <| n_then <| c_seq <| c_region ?_
      refine s_ hf (r_move hf rfl) fun a hf => ?_
      refine s_ hf (r_move hf rfl) fun a hf => ?_
      refine s_ hf (r_move hf rfl) fun a hf => ?_
      refine s_ hf (r_load_agg ty78 hf rfl o7.cl (cProd.len _)) fun a hf => ?_
      obtain ⟨x25, hx26, hF⟩ := of_bind hF
      refine st_fn 11 hw hf rfl rfl (by decide) (r_fn en149 hf rfl) (impl_normal_ok  hx26) fun a v w ρ hf hw hE hN hΦ => ?_
      obtain rfl := hΦ
      replace oA := oA.ext hE
      replace o1 := o1.ext hE
      replace o4 := o4.ext hE
      replace o7 := o7.ext hE
      replace o8 := o8.ext hE
      obtain ⟨hc27, hF⟩ := of_guard hF
      obtain ⟨ad28, hl28⟩ := Ow.ce (d := cProd) o8 zProd hc27.1 hc27.2
      refine s_ hf (r_idx Try.underlying26 sz78 hf rfl hl28.at_ rfl hc27.1 hc27.2) fun a hf => ?_
      refine sk_ hf (r_store_ec (b := x25) zProd hw (by decide) o8 hc27.1 hc27.2 (Lens.id _) hl28.at_ ty78 (by first | rfl | exact Nat.add_assoc _ _ _ | (simp only [Nat.add_assoc]; rfl)) hf rfl rfl rfl) fun a w hf hΦ => ?_
      obtain ⟨hw, hA, o8⟩ := hΦ
      replace oA := oA.adv hA (by decide)
      replace o1 := o1.adv hA (by decide)
      replace o4 := o4.adv hA (by decide)
      replace o7 := o7.adv hA (by decide)
      refine c_nt <| c_seq <| c_region ?_
      refine s_ hf (r_move hf rfl) fun a hf => ?_
      refine s_ hf (r_assign hf rfl) fun a hf => ?_
      refine s_ hf (r_assign hf rfl) fun a hf => ?_
      refine c_nt <| c_retc ?_
      obtain rfl := Option.some.inj hF
      replace oA := oA.relab (j := 8) (fun k _ => oneOf_ne (by decide) k) 1
      replace o4 := o4.tr (Tr.relab (j := 8) (b := 1) (by decide))
      replace o7 := o7.tr (Tr.relab (j := 8) (b := 1) (by decide))
      replace o8 := o8.relab 1
      replace hw := hw.relab (j := 8) (by decide) 1
      refine r_block <| r_then ?_
      refine Rnd.rets fun ho => ?_
      subst ho
      have hF := hG6
      dsimp only at hF
      obtain rfl := Option.some.inj hF
      refine r_block <| r_block <| r_then ?_
      refine Rnd.rets fun ho => ?_
      subst ho
      have hF := hG1
      dsimp only at hF
      obtain rfl := Option.some.inj hF
      refine r_block <| r_then <| c_ret hf (res_tt Try.results114 hf rfl rfl) ?_
      exact ⟨_, rfl, _, m_wd hW hw oA, m_adv oA, _, rfl, m_ow oA o8⟩
    rintro s7 a w hs ⟨ρ, hw, hf, oA, o1⟩
    subst hs
    have hF := hG6
    dsimp only at hF
    refine x_block <| n_block <| n_then <| c_region ?_
    refine s_ hf (r_add hf rfl rfl) fun a hf => ?_
    refine s_ hf (r_move hf rfl) fun a hf => ?_
    refine c_nil ?_
    obtain rfl := Option.some.inj hF
    exact Rnd.goes ⟨_, hw, hf.sub ⟨rfl, rfl, rfl, rfl, rfl, trivial⟩, oA, o1⟩
  rintro s2 a w hs ⟨ρ, hw, hf, oA, o1⟩
  subst hs
  have hF := hG1
  dsimp only at hF
  refine x_block <| n_then <| c_seq <| c_region ?_
  refine s_ hf (r_move hf rfl) fun a hf => ?_
  refine s_ hf (r_assign hf rfl) fun a hf => ?_
  refine s_ hf (r_assign hf rfl) fun a hf => ?_
  refine c_nt <| c_retc ?_
  obtain rfl := Option.some.inj hF
  refine c_ret hf (res_tt Try.results114 hf rfl rfl) ?_
  exact ⟨_, rfl, _, m_wd hW hw oA, m_adv oA, _, rfl, m_ow oA o1⟩
/-! f51 -/
noncomputable def impl_ReduceScheme_l8 (a0 : Sch) (s9 : Bool) (s10 : List Prod) : Option (LR (Bool × (List Prod)) (Sch × Int)) :=
  if s9 = true then ((impl_reduceOnce a0.p s10).bind fun x13 => some (.next (x13.2, x13.1))) else (some (.stop (s9, s10)))
noncomputable def impl_ReduceScheme (a0 : Sch) : Option (Sch × Int) :=
  (impl_IsScheme a0).bind fun x1 => if (!x1) = true then (some (((⟨0, 0, 0, 0, ([] : List Prod)⟩ : Sch), 1))) else ((impl_normals a0).bind fun x4 => (iter (fun s => impl_ReduceScheme_l8 a0 s.1 s.2) (true, x4.ps)).bind fun o => match o with | .stop (s9, s10) => ((impl_with a0 s10).bind fun x16 => some ((x16, 0))) | .ret r => some r | .next _ => none)
theorem impl_ReduceScheme_ok {w0 : World} {a0 : Sch} {va0 : Value} (h0 : Ro (kf cProd) w0 va0 a0.ps) {r : Sch × Int} (hF : impl_ReduceScheme a0 = some r) :
    Calls Try.prog 51 [.agg ([vI a0.p, vI a0.n, vI a0.m, vI a0.k, va0]).toArray].toArray w0 fun e w => ∃ v, e = .returned v ∧ Below w0.heap.size w0 w ∧ ∃ u0, .tuple #[.agg [.int .i64 r.1.p, .int .i64 r.1.n, .int .i64 r.1.m, .int .i64 r.1.k, u0].toArray, .int .i64 r.2] = v ∧ Fresh (kf cProd) 78 w0 w u0 r.1.ps := by
  refine calls_of (k := 24) Try.func51 rfl rfl (Nat.le_of_ble_eq_true rfl) fun a hf => ?_
  replace hf : Fr 24 a [(0, .agg ([vI a0.p, vI a0.n, vI a0.m, vI a0.k, va0]).toArray)] := hf
  refine c_start fun w ρ hw => ?_
  unfold impl_ReduceScheme at hF
  refine c_seq <| c_region ?_
  refine sx_ hf (r_box (cs := [vI a0.p, vI a0.n, vI a0.m, vI a0.k, va0]) 1 hw hf rfl rfl) fun a v w hf hΦ => ?_
  obtain ⟨g1, ρ, rfl, hw, hE, o1⟩ := hΦ
  have o3 : Ow (kf cProd) 78 ρ w w0.heap.size 3 (.slice none 0 0) [] := Ow.nil _ _ _ _ _ _
  refine sx_ hf (r_alloc (cs := [vI 0, vI 0, vI 0, vI 0, (.slice none 0 0)]) 2 ze28 rfl hw) fun a v w hf hΦ => ?_
  obtain ⟨g2, ρ, rfl, hw, hE, o2⟩ := hΦ
  replace o1 := o1.ext hE
  replace o3 := o3.ext hE
  refine s_ hf (r_assign hf rfl) fun a hf => ?_
  refine c_nt <| c_seq <| c_seq <| c_region ?_
  refine s_ hf (r_load_agg ty28 hf rfl o1.cl rfl) fun a hf => ?_
  obtain ⟨x1, hx2, hF⟩ := of_bind hF
  refine st_fn 4 hw hf rfl rfl (by decide) (r_fn en74 hf rfl) (impl_IsScheme_ok (a0 := a0) (h0.now hw) hx2) fun a v w ρ hf hw hE hN hΦ => ?_
  obtain rfl := hΦ
  replace o1 := o1.ext hE
  replace o3 := o3.ext hE
  replace o2 := o2.ext hE
  refine s_ hf (r_not hf rfl) fun a hf => ?_
  refine c_nt ?_
  rcases of_ite hF with ⟨hb3, hF⟩ | ⟨hb3, hF⟩
  · refine c_ift hf rfl hb3 <| c_seq <| c_region ?_
    have o5 : Ow (kf cProd) 78 ρ w w0.heap.size 5 (.slice none 0 0) [] := Ow.nil _ _ _ _ _ _
    refine s_ hf (r_build_struct (pl := [(0, 1), (1, 1), (2, 1), (3, 1), (4, 1)]) (vs := []) (res := ([vI 0, vI 0, vI 0, vI 0, (.slice none 0 0)]).toArray) Try.underlying28 (by kernel_rfl) ze28 hf rfl rfl rfl) fun a hf => ?_
    refine sk_ hf (r_store_w (cs' := [vI 0, vI 0, vI 0, vI 0, (.slice none 0 0)]) hw o2 (by decide) ty28 rfl rfl (one_sch o5.ro.one) hf rfl rfl rfl) fun a w hf hΦ => ?_
    obtain ⟨hw, hA, o2⟩ := hΦ
    replace o1 := o1.adv hA (by decide)
    replace o3 := o3.adv hA (by decide)
    replace o5 := o5.adv hA (by decide)
    refine s_ hf (r_assign hf rfl) fun a hf => ?_
    refine c_nt <| c_retc ?_
    obtain rfl := Option.some.inj hF
    refine r_then <| c_ret hf (res_ct Try.results51 ty28 hf rfl o2.cl rfl rfl) ?_
    exact ⟨_, rfl, hw.below, ⟨_, rfl, o5.out⟩⟩
  refine c_iff hf rfl hb3 <| c_skip <| n_then <| c_seq <| c_region ?_
  refine s_ hf (r_load_agg ty28 hf rfl o1.cl rfl) fun a hf => ?_
  obtain ⟨x4, hx5, hF⟩ := of_bind hF
  refine st_fn 6 hw hf rfl rfl (by decide) (r_fn en113 hf rfl) (impl_normals_ok (a0 := a0) (h0.now hw) hx5) fun a v w ρ hf hw hE hN hΦ => ?_
  obtain ⟨u6, rfl, hr7⟩ := hΦ
  replace o1 := o1.ext hE
  replace o3 := o3.ext hE
  replace o2 := o2.ext hE
  have o6 := hN hr7
  refine s_ hf (r_fieldc Try.underlying28 rfl ty26 hf rfl rfl) fun a hf => ?_
  refine s_ hf (r_assign hf rfl) fun a hf => ?_
  refine s_ hf (r_assign hf rfl) fun a hf => ?_
  refine c_nt <| c_seq ?_
  obtain ⟨ol8, ho8, hG8⟩ := of_bind hF
  clear hF
  refine c_block (c_loop (id := 0) (fun s => impl_ReduceScheme_l8 a0 s.1 s.2) (fun (s : Bool × (List Prod)) a w => match s with | (s9, s10) => ∃ ρ v11, Wd w0 ρ w ∧ Fr 24 a [(1, .pointer (some ((⟨g1, 0, none⟩ : Addr).add 0))), (2, .pointer (some ((⟨g2, 0, none⟩ : Addr).add 0))), (4, v11), (5, .bool s9)] ∧ Va ρ w 1 g1 28 ([vI a0.p, vI a0.n, vI a0.m, vI a0.k, va0]) ∧ Va ρ w 2 g2 28 ([vI 0, vI 0, vI 0, vI 0, (.slice none 0 0)]) ∧ O78 ρ w w0 3 (.slice none 0 0) ([] : List Prod) ∧ O78 ρ w w0 6 v11 s10) (fun (s : Bool × (List Prod)) a w => match s with | (s9, s10) => ∃ ρ v11, Wd w0 ρ w ∧ Fr 24 a [(1, .pointer (some ((⟨g1, 0, none⟩ : Addr).add 0))), (2, .pointer (some ((⟨g2, 0, none⟩ : Addr).add 0))), (4, v11)] ∧ Va ρ w 1 g1 28 ([vI a0.p, vI a0.n, vI a0.m, vI a0.k, va0]) ∧ Va ρ w 2 g2 28 ([vI 0, vI 0, vI 0, vI 0, (.slice none 0 0)]) ∧ O78 ρ w w0 3 (.slice none 0 0) ([] : List Prod) ∧ O78 ρ w w0 6 v11 s10) ho8 ⟨_, _, hw, hf.sub ⟨rfl, rfl, rfl, rfl, trivial⟩, o1, o2, o3, o6⟩ ?_ ?_)
  · rintro ⟨s9, s10⟩ lr a w ⟨ρ, v11, hw, hf, o1, o2, o3, o6⟩ hF
    replace hF : impl_ReduceScheme_l8 a0 s9 s10 = some lr := hF
    unfold impl_ReduceScheme_l8 at hF
    refine c_seq <| c_seq <| c_region ?_
    refine s_ hf (r_move hf rfl) fun a hf => ?_
    refine c_nt ?_
    rcases of_ite hF with ⟨hb12, hF⟩ | ⟨hb12, hF⟩
    rotate_left
    · refine c_iff hf rfl hb12 <| c_exit <| x_then ?_
      obtain rfl := Option.some.inj hF
      exact Rnd.stops ⟨_, _, hw, hf.sub ⟨rfl, rfl, rfl, trivial⟩, o1, o2, o3, o6⟩
    refine c_ift hf rfl hb12 <| c_skip <| n_then <| c_block <| c_region ?_
    refine s_ hf (r_fa fa28_0 hf rfl) fun a hf => ?_
    refine s_ hf (r_load_cell ty2 hf rfl (o1.cl.at_ 0 _ rfl)) fun a hf => ?_
    refine s_ hf (r_move hf rfl) fun a hf => ?_
    obtain ⟨x13, hx14, hF⟩ := of_bind hF
    refine st_mfn hf rfl rfl (by decide) (r_fn en114 hf rfl) (impl_reduceOnce_ok (by decide) hw o6 hx14) fun a v w ρ hf hw hA hΦ => ?_
    obtain ⟨u15, rfl, o6⟩ := hΦ
    replace o1 := o1.adv hA (by decide)
    replace o2 := o2.adv hA (by decide)
    replace o3 := o3.adv hA (by decide)
    refine s_ hf (r_move hf rfl) fun a hf => ?_
    refine s_ hf (r_extract hf rfl rfl) fun a hf => ?_
    refine s_ hf (r_extract hf rfl rfl) fun a hf => ?_
    refine s_ hf (r_assign hf rfl) fun a hf => ?_
    refine s_ hf (r_assign hf rfl) fun a hf => ?_
    refine c_nil <| n_block ?_
    obtain rfl := Option.some.inj hF
    exact Rnd.goes ⟨_, _, hw, hf.sub ⟨rfl, rfl, rfl, rfl, trivial⟩, o1, o2, o3, o6⟩
  rintro ⟨s9, s10⟩ a w hs ⟨ρ, v11, hw, hf, o1, o2, o3, o6⟩
  subst hs
  have hF := hG8
  dsimp only at hF
  refine x_block <| n_then <| c_seq <| c_region ?_
  refine s_ hf (r_load_agg ty28 hf rfl o1.cl rfl) fun a hf => ?_
  refine s_ hf (r_move hf rfl) fun a hf => ?_
  obtain ⟨x16, hx17, hF⟩ := of_bind hF
  refine st_mfn hf rfl rfl (by decide) (r_fn en78 hf rfl) (impl_with_ok (a0 := a0) (by decide) hw h0 o6 hx17) fun a v w ρ hf hw hA hΦ => ?_
  obtain ⟨u18, rfl, o6⟩ := hΦ
  replace o1 := o1.adv hA (by decide)
  replace o2 := o2.adv hA (by decide)
  replace o3 := o3.adv hA (by decide)
  refine sk_ hf (r_store_w (cs' := [vI x16.p, vI x16.n, vI x16.m, vI x16.k, u18]) hw o2 (by decide) ty28 rfl rfl (one_sch o6.ro.one) hf rfl rfl rfl) fun a w hf hΦ => ?_
  obtain ⟨hw, hA, o2⟩ := hΦ
  replace o1 := o1.adv hA (by decide)
  replace o3 := o3.adv hA (by decide)
  replace o6 := o6.adv hA (by decide)
  refine s_ hf (r_assign hf rfl) fun a hf => ?_
  refine c_nt <| c_retc ?_
  obtain rfl := Option.some.inj hF
  refine c_ret hf (res_ct Try.results51 ty28 hf rfl o2.cl rfl rfl) ?_
  exact ⟨_, rfl, hw.below, ⟨_, rfl, o6.out⟩⟩
end Go.Proofs.YtB
